/- spenceref22.Right of any built. (Several texts in one.) -/
import Derived.Test.YtniibcgomnjfgaaGreatVAV
import Derived.Test.YtniibcgomnjfgaaGreatVAQ
import Derived.Test.YtniibcgomnjfgaaGreatVAO
import Derived.Test.YtniibcgomnjfgaaGreatVAT
import Derived.Test.YtniibcgomnjfgaaGreatVAF
import Derived.Test.YtniibcgomnjfgaaGreatVAR
import Derived.Test.YtniibcgomnjfgaaGreatVAJ
/-! spenceref22.place: a place as text; its order. -/
namespace Go.Agg
open Go.RowKit
variable {P : Program}
theorem exec_addS {o : Oper} {ac : Act} {w : World} {t u : TypeId} {x y : Operand} {a b : List UInt8} (ho : o.op = .binOp .add t x y u) (hx : ac.eval x = .string ⟨a.toArray⟩) (hy : ac.eval y = .string ⟨b.toArray⟩) (hl : a.length + b.length ≤ 9223372036854775807) : (execOp ac.eval o).run P w = .ok (.value (.string ⟨(a ++ b).toArray⟩)) w := by
  have h1 := bytes_size a
  have h2 := bytes_size b
  have h3 : ¬ ((((⟨a.toArray⟩ : ByteArray).size + (⟨b.toArray⟩ : ByteArray).size : Nat) : Int) > IntKind.i64.max) := by rw [h1, h2]; simp only [IntKind.max, IntKind.bits]; omega
  simp only [execOp, ho, hx, hy]
  simp only [binOp, Op.stringOp, if_neg h3, bytes_append]
  first | rfl | simp
end Go.Agg
namespace Go.Proofs.YtniibcgomnjfgaaGreat
open Go.RowKit Pl Go.Agg
open Go.Lib (compareBytes)
def byB (n : Int) : UInt8 := UInt8.ofNat (n % 256).toNat
def plS (x : Bu) : List UInt8 := (x.cl.1 ++ x.ky.1) ++ [byB x.by_]
theorem exec_byteS {o : Oper} {a : Act} {w : World} {x : Operand} {n : Int} (ho : o.op = .convert 3 5 x) (hx : a.eval x = .int .i64 n) : (execOp a.eval o).run Tryz.prog w = .ok (.value (.int .u8 ((byB n).toNat : Int))) w := by
  have h : ((byB n).toNat : Int) = n % 256 := by
    unfold byB
    rw [UInt8.toNat_ofNat']
    omega
  rw [h]
  have hc : (convert 3 5 (.int .i64 n)).run Tryz.prog w = .ok (.int .u8 (n % 256)) w := by
    simp [convert]
    simp [Conv.intToInt, IntKind.wrap, IntKind.signed, IntKind.bits]
  simp [execOp, ho, hx, hc]
theorem bC_slice0 {w : World} {b : Nat} {x : BuV} (h : Blk w b 29 (bC x)) : BytesAt w (.slice (some ⟨b, 0, none⟩) 20 20) x.1.cl.1 :=
  .inr ⟨_, 20, by rw [x.1.cl.2], h.lt, fun j v hj => by
    rw [add_plain, h.cell]
    refine bC_cl x j v ?_
    rw [flat_bytes] at hj
    show (hC x.1.cl.1)[j]? = some v
    simpa [hC] using hj⟩
theorem bC_slice20 {w : World} {b : Nat} {x : BuV} (h : Blk w b 29 (bC x)) : BytesAt w (.slice (some ⟨b, 20, none⟩) 20 20) x.1.ky.1 :=
  .inr ⟨_, 20, by rw [x.1.ky.2], h.lt, fun j v hj => by
    rw [add_plain, h.cell]
    refine bC_ky x j v ?_
    rw [flat_bytes] at hj
    show (hC x.1.ky.1)[j]? = some v
    simpa [hC] using hj⟩
set_option maxRecDepth 100000 in
set_option maxHeartbeats 4000000 in
theorem refPlace_any (x : BuV) (w : World) : Calls Tryz.prog 46 #[.agg (bC x)] w fun e w' => e = .returned (.string ⟨(plS x.1).toArray⟩) ∧ Below w.heap.size w w' := by
  go_enter Tryz.func46, Tryz.ntmps46
  go_wp2_with (first | (with_reducible refine wpList_box rfl 29 _ rfl (bC x) rfl ?_; intro b1 w1 hb1 hx1 hg1; have HB1 := Lib.hid hb1; have HX1 := Lib.hid hx1; clear hb1 hx1 hg1))
  try simp only [Act.put, List.setIfInBounds_toArray, List.set_cons_succ, List.set_cons_zero]
  try simp only [List.append_eq, List.cons_append, List.nil_append]
  obtain ⟨w0, hw0⟩ : ∃ W, W = w1.drew := ⟨_, rfl⟩
  have hd : Below w1.heap.size w1 w0 := by rw [hw0]; exact (Below.refl _ _).drew
  have HB0 := Lib.hid (HB1.out.below hd)
  have HX0 := Lib.hid (Agg.belowThen HX1.out (Nat.le_refl _) hd)
  refine wp_region_held_drew (S := fun W => Blk W b1 29 (bC x)) (by kernel_rfl) (by rw [← hw0]; exact HB0.out) (fun hHeld => ?_)
  rw [← hw0] at hHeld ⊢
  clear hw0 hd
  refine Agg.held_take 0 (.pointer (some ⟨b1, 0, none⟩)) rfl (by kernel_rfl) (fun _ _ _ h => h) rfl (fun W _ => by kernel_rfl) (by assumption) ?_
  try simp only [Act.put, List.setIfInBounds_toArray, List.set_cons_succ, List.set_cons_zero]
  refine Agg.held_take 1 (.slice (some ⟨b1, 0, none⟩) 20 20) rfl (by kernel_rfl) (fun _ _ _ h => h) rfl (fun W _ => by kernel_rfl) (by assumption) ?_
  try simp only [Act.put, List.setIfInBounds_toArray, List.set_cons_succ, List.set_cons_zero]
  refine Agg.held_take 2 (.string ⟨x.1.cl.1.toArray⟩) rfl (by kernel_rfl) (fun _ _ _ h => h) rfl (fun W hS => exec_toStrB rfl rfl (bC_slice0 hS)) (by assumption) ?_
  try simp only [Act.put, List.setIfInBounds_toArray, List.set_cons_succ, List.set_cons_zero]
  refine Agg.held_take 3 (.pointer (some ⟨b1, 20, none⟩)) rfl (by kernel_rfl) (fun _ _ _ h => h) rfl (fun W _ => by kernel_rfl) (by assumption) ?_
  try simp only [Act.put, List.setIfInBounds_toArray, List.set_cons_succ, List.set_cons_zero]
  refine Agg.held_take 4 (.slice (some ⟨b1, 20, none⟩) 20 20) rfl (by kernel_rfl) (fun _ _ _ h => h) rfl (fun W _ => by kernel_rfl) (by assumption) ?_
  try simp only [Act.put, List.setIfInBounds_toArray, List.set_cons_succ, List.set_cons_zero]
  refine Agg.held_take 5 (.string ⟨x.1.ky.1.toArray⟩) rfl (by kernel_rfl) (fun _ _ _ h => h) rfl (fun W hS => exec_toStrB rfl rfl (bC_slice20 hS)) (by assumption) ?_
  try simp only [Act.put, List.setIfInBounds_toArray, List.set_cons_succ, List.set_cons_zero]
  refine Agg.held_take 6 (.string ⟨(x.1.cl.1 ++ x.1.ky.1).toArray⟩) rfl (by kernel_rfl) (fun _ _ _ h => h) rfl (fun W hS => exec_addS rfl rfl rfl (by rw [x.1.cl.2, x.1.ky.2]; decide)) (by assumption) ?_
  try simp only [Act.put, List.setIfInBounds_toArray, List.set_cons_succ, List.set_cons_zero]
  refine Agg.held_take 7 (.pointer (some ⟨b1, 61, none⟩)) rfl (by kernel_rfl) (fun _ _ _ h => h) rfl (fun W _ => by kernel_rfl) (by assumption) ?_
  try simp only [Act.put, List.setIfInBounds_toArray, List.set_cons_succ, List.set_cons_zero]
  refine Agg.held_take 8 (.int .i64 x.1.by_) rfl (by kernel_rfl) (fun _ _ _ h => h) rfl (fun W hS => exec_loadB rfl rfl (hS.one (ty := 3) 61 (by rw [show 61 = 61 + 0 from rfl, bC_tail]; rfl) Tryz.underlying3 rfl).now) (by assumption) ?_
  try simp only [Act.put, List.setIfInBounds_toArray, List.set_cons_succ, List.set_cons_zero]
  refine Agg.held_take 9 (.int .u8 ((byB x.1.by_).toNat : Int)) rfl (by kernel_rfl) (fun _ _ _ h => h) rfl (fun W hS => exec_byteS rfl rfl) (by assumption) ?_
  try simp only [Act.put, List.setIfInBounds_toArray, List.set_cons_succ, List.set_cons_zero]
  refine Agg.held_ready [10] (by kernel_rfl) (by simp) ?_
  refine Agg.held_cons rfl ?_ ?_
  · refine Agg.step_slice1 (E := EB) rfl _ rfl (byB x.1.by_) rfl ?_
    intro v11 w11 hys hx
    have HS11 := Lib.hid hys.slice
    have HB11 := Lib.hid (HB0.out.below hx)
    have HX11 := Lib.hid (Agg.belowThen HX0.out (Nat.le_refl _) hx)
    clear hys hx
    refine ⟨HB11.out, ?_⟩
    try simp only [Act.put, List.setIfInBounds_toArray, List.set_cons_succ, List.set_cons_zero]
    refine Agg.held_ready [11] (by kernel_rfl) (by simp) ?_
    refine Agg.held_cons rfl ?_ ?_
    · refine Agg.step_val rfl (v := .string ⟨([byB x.1.by_] : List UInt8).toArray⟩) (w' := w11) (exec_toStrB rfl rfl HS11.out) ?_
      refine ⟨HB11.out, ?_⟩
      try simp only [Act.put, List.setIfInBounds_toArray, List.set_cons_succ, List.set_cons_zero]
      refine Agg.held_take 12 (.string ⟨(plS x.1).toArray⟩) rfl (by kernel_rfl) (fun _ _ _ h => h) rfl (fun W hS => exec_addS rfl rfl rfl (by rw [List.length_append, x.1.cl.2, x.1.ky.2]; simp)) (by assumption) ?_
      try simp only [Act.put, List.setIfInBounds_toArray, List.set_cons_succ, List.set_cons_zero]
      refine Agg.held_take 13 (.string ⟨(plS x.1).toArray⟩) rfl (by kernel_rfl) (fun _ _ _ h => h) rfl (fun W _ => by kernel_rfl) (by assumption) ?_
      try simp only [Act.put, List.setIfInBounds_toArray, List.set_cons_succ, List.set_cons_zero]
      refine Agg.held_end (by kernel_rfl) ?_
      go_wp2_with fail
      go_ret
      exact ⟨rfl, HX11.out⟩
    exact AllReadyH.nil
  exact AllReadyH.nil
/-! the order of places as texts -/
theorem less_app : ∀ (a b c d : List UInt8), a.length = b.length → Op.bytesLess (a ++ c) (b ++ d) = (Op.bytesLess a b || (decide (a = b) && Op.bytesLess c d))
  | [], [], c, d, _ => by simp [Op.bytesLess]
  | [], _ :: _, _, _, h => by simp at h
  | _ :: _, [], _, _, h => by simp at h
  | x :: a, y :: b, c, d, h => by
    have ih := less_app a b c d (by simpa using h)
    simp only [List.cons_append, Op.bytesLess, ih, List.cons.injEq]
    by_cases e : x = y
    · subst e
      simp
    · simp [e, beq_eq_false_iff_ne.2 e]
theorem byB_less {m n : Int} (h1 : 1 ≤ m) (h2 : m ≤ 16) (h3 : 1 ≤ n) (h4 : n ≤ 16) : Op.bytesLess [byB m] [byB n] = decide (m < n) := by
  simp only [Op.bytesLess, Bool.and_false, Bool.or_false]
  rw [Bool.eq_iff_iff, decide_eq_true_eq, decide_eq_true_eq, UInt8.lt_iff_toNat_lt]
  unfold byB
  rw [UInt8.toNat_ofNat', UInt8.toNat_ofNat']
  omega
theorem byB_inj {m n : Int} (h1 : 1 ≤ m) (h2 : m ≤ 16) (h3 : 1 ≤ n) (h4 : n ≤ 16) (h : byB m = byB n) : m = n := by
  have := congrArg UInt8.toNat h
  unfold byB at this
  rw [UInt8.toNat_ofNat', UInt8.toNat_ofNat'] at this
  omega
theorem right_by {x : Bu} (h : rightBu x = true) : 1 ≤ x.by_ ∧ x.by_ ≤ 16 := by
  simp only [rightBu, Bool.and_eq_true, decide_eq_true_eq] at h
  exact ⟨h.2.1, h.2.2.1⟩
theorem plS_less {x y : Bu} (hx : rightBu x = true) (hy : rightBu y = true) : Op.bytesLess (plS x) (plS y) = ltPl (plOf x) (plOf y) := by
  obtain ⟨a1, a2⟩ := right_by hx
  obtain ⟨b1, b2⟩ := right_by hy
  unfold plS ltPl plOf
  rw [less_app _ _ _ _ (by rw [List.length_append, List.length_append, x.cl.2, x.ky.2, y.cl.2, y.ky.2]), less_app _ _ _ _ (by rw [x.cl.2, y.cl.2]), byB_less a1 a2 b1 b2]
  simp only
  rw [Bool.eq_iff_iff]
  simp only [Bool.or_eq_true, Bool.and_eq_true, decide_eq_true_eq, Subtype.ext_iff]
  constructor
  · rintro ((h | h) | ⟨h, h3⟩)
    · exact .inl h
    · exact .inr ⟨h.1, .inl h.2⟩
    · have := List.append_inj h (by rw [x.cl.2, y.cl.2])
      exact .inr ⟨this.1, .inr ⟨this.2, h3⟩⟩
  · rintro (h | ⟨h1, h | ⟨h2, h3⟩⟩)
    · exact .inl (.inl h)
    · exact .inl (.inr ⟨h1, h⟩)
    · exact .inr ⟨by rw [h1, h2], h3⟩
theorem plS_eq {x y : Bu} (hx : rightBu x = true) (hy : rightBu y = true) : plS x = plS y ↔ plOf x = plOf y := by
  obtain ⟨a1, a2⟩ := right_by hx
  obtain ⟨b1, b2⟩ := right_by hy
  unfold plS plOf
  constructor
  · intro h
    have h1 := List.append_inj h (by rw [List.length_append, List.length_append, x.cl.2, x.ky.2, y.cl.2, y.ky.2])
    have h2 := List.append_inj h1.1 (by rw [x.cl.2, y.cl.2])
    have h3 : byB x.by_ = byB y.by_ := by simpa using h1.2
    rw [Subtype.ext h2.1, Subtype.ext h2.2, byB_inj a1 a2 b1 b2 h3]
  · intro h
    simp only [Prod.mk.injEq] at h
    rw [h.1, h.2.1, h.2.2]
end Go.Proofs.YtniibcgomnjfgaaGreat
/-! Numbers out of bytes: the plain law of code.Cursor. -/
namespace Go.Agg
/-- a number at the begin of bytes: how many bytes it has (0: there is none), and what it is -/
def numGo : Nat → Nat → List UInt8 → Nat × Nat
  | _, n, [] => (0, n)
  | k, n, c :: t => if k = 6 then (0, n) else if c.toNat < 128 then (k + 1, n + c.toNat * 128 ^ k) else numGo (k + 1) (n + c.toNat % 128 * 128 ^ k) t
/-- .. taken at once -/
def dec : Nat → List UInt8 → Nat × Nat
  | _, [] => (0, 0)
  | 0, _ :: _ => (0, 0)
  | f + 1, c :: t => if c.toNat < 128 then (1, c.toNat) else if (dec f t).1 = 0 then (0, 0) else ((dec f t).1 + 1, c.toNat % 128 + 128 * (dec f t).2)
theorem numGo_dec : ∀ (l : List UInt8) (k n : Nat), k ≤ 6 → if (dec (6 - k) l).1 = 0 then (numGo k n l).1 = 0 else numGo k n l = (k + (dec (6 - k) l).1, n + (dec (6 - k) l).2 * 128 ^ k) := by
  intro l
  induction l with
  | nil => intro k n _; cases h : 6 - k <;> simp [dec, numGo]
  | cons c t ih =>
    intro k n hk
    by_cases h6 : k = 6
    · subst h6; simp [dec, numGo]
    · have hf : 6 - k = (6 - (k + 1)) + 1 := by omega
      rw [hf]
      simp only [dec, numGo, if_neg h6]
      by_cases hc : c.toNat < 128
      · simp [hc]
      · simp only [if_neg hc]
        have := ih (k + 1) (n + c.toNat % 128 * 128 ^ k) (by omega)
        by_cases h0 : (dec (6 - (k + 1)) t).1 = 0
        · rw [if_pos h0] at this ⊢
          simpa using this
        · rw [if_neg h0] at this
          rw [if_neg h0]
          simp only [if_neg (show ¬ (dec (6 - (k + 1)) t).1 + 1 = 0 by omega)]
          rw [this]
          refine Prod.ext (by show k + 1 + _ = k + (_ + 1); omega) ?_
          show n + c.toNat % 128 * 128 ^ k + (dec (6 - (k + 1)) t).2 * 128 ^ (k + 1) = n + (c.toNat % 128 + 128 * (dec (6 - (k + 1)) t).2) * 128 ^ k
          rw [Nat.pow_succ, Nat.add_mul, ← Nat.add_assoc]
          congr 1
          rw [Nat.mul_comm 128, Nat.mul_assoc, Nat.mul_comm (128 ^ k) 128]
theorem dec_le : ∀ (f : Nat) (l : List UInt8), (dec f l).1 ≤ f ∧ (dec f l).1 ≤ l.length ∧ (dec f l).2 < 128 ^ f := by
  intro f
  induction f with
  | zero => intro l; cases l <;> simp [dec]
  | succ f ih =>
    intro l
    cases l with
    | nil => simp [dec]; exact Nat.pow_pos (by omega)
    | cons c t =>
      obtain ⟨h1, h2, h3⟩ := ih t
      simp only [dec]
      have hp : 0 < 128 ^ f := Nat.pow_pos (by omega)
      rw [Nat.pow_succ]
      split
      · refine ⟨by show 1 ≤ f + 1; omega, by simp, ?_⟩
        show c.toNat < 128 ^ f * 128
        omega
      · split
        · refine ⟨by simp, by simp, ?_⟩
          show 0 < 128 ^ f * 128
          omega
        · refine ⟨by show _ + 1 ≤ _; omega, by show _ + 1 ≤ (c :: t).length; simp only [List.length_cons]; omega, ?_⟩
          show c.toNat % 128 + 128 * (dec f t).2 < 128 ^ f * 128
          have : c.toNat % 128 < 128 := Nat.mod_lt _ (by omega)
          omega
/-- it is the shortest form, just if it is as long as that -/
theorem dec_enc : ∀ (f : Nat) (l : List UInt8), (dec f l).1 ≠ 0 → (encN (dec f l).2).length ≤ (dec f l).1 ∧ ((encN (dec f l).2).length = (dec f l).1 → l.take (dec f l).1 = encN (dec f l).2) := by
  intro f
  induction f with
  | zero => intro l h; cases l <;> simp [dec] at h
  | succ f ih =>
    intro l h
    cases l with
    | nil => simp [dec] at h
    | cons c t =>
      simp only [dec] at h ⊢
      by_cases hc : c.toNat < 128
      · simp only [if_pos hc]
        rw [encN_lt hc]
        simp
      · simp only [if_neg hc] at h ⊢
        by_cases h0 : (dec f t).1 = 0
        · simp [h0] at h
        · simp only [if_neg h0] at h ⊢
          obtain ⟨h1, h2⟩ := ih t h0
          have hc2 := c.toNat_lt
          by_cases hv : (dec f t).2 = 0
          · rw [hv, Nat.mul_zero, Nat.add_zero, encN_lt (Nat.mod_lt _ (by omega))]
            refine ⟨by simp, fun h => ?_⟩
            simp only [List.length_cons, List.length_nil] at h
            omega
          · have hge : 128 ≤ c.toNat % 128 + 128 * (dec f t).2 := by omega
            have hd : (c.toNat % 128 + 128 * (dec f t).2) / 128 = (dec f t).2 := by omega
            have hm : (c.toNat % 128 + 128 * (dec f t).2) % 128 = c.toNat % 128 := by omega
            rw [encN_ge hge, hd, hm]
            refine ⟨by simp only [List.length_cons]; omega, fun h => ?_⟩
            simp only [List.length_cons] at h
            rw [List.take_succ_cons, h2 (by omega)]
            congr 1
            have : c.toNat % 128 + 128 = c.toNat := by omega
            rw [this]
            simp
theorem enc_dec : ∀ (f n : Nat) (y : List UInt8), n < 128 ^ f → 0 < f → dec f (encN n ++ y) = ((encN n).length, n) := by
  intro f
  induction f with
  | zero => intro n y h h0; omega
  | succ f ih =>
    intro n y h _
    by_cases hn : n < 128
    · rw [encN_lt hn]
      have e : (UInt8.ofNat n).toNat = n := by simp; omega
      simp only [List.singleton_append, dec, e, if_pos hn]
      rfl
    · rw [encN_ge (by omega)]
      have e : (UInt8.ofNat (n % 128 + 128)).toNat = n % 128 + 128 := by simp; omega
      have hf : 0 < f := by
        rcases Nat.eq_zero_or_pos f with h0 | h0
        · subst h0; simp at h; omega
        · exact h0
      have := ih (n / 128) y (by rw [Nat.pow_succ] at h; exact Nat.div_lt_of_lt_mul (by rw [Nat.mul_comm]; exact h)) hf
      have hpos : (encN (n / 128)).length ≠ 0 := by rw [encN]; split <;> simp
      simp only [List.cons_append, dec, e, if_neg (show ¬ n % 128 + 128 < 128 by omega), this, if_neg hpos, List.length_cons]
      refine Prod.ext rfl ?_
      show (n % 128 + 128) % 128 + 128 * (n / 128) = n
      omega
/-- a number that is got, and what is left of bytes -/
def getN (most : Nat) (b : List UInt8) : Option (Nat × List UInt8) :=
  if (dec 6 b).1 = 0 ∨ (dec 6 b).1 ≠ (encN (dec 6 b).2).length ∨ 1099511627776 < (dec 6 b).2 ∨ most < (dec 6 b).2 then none else some ((dec 6 b).2, b.drop (dec 6 b).1)
theorem getN_enc {most n : Nat} (h : n ≤ 1099511627776) (hm : n ≤ most) (y : List UInt8) : getN most (encN n ++ y) = some (n, y) := by
  have e := enc_dec 6 n y (by omega) (by omega)
  have hpos : (encN n).length ≠ 0 := by rw [encN]; split <;> simp
  unfold getN
  rw [e, if_neg (by rintro (h | h | h | h) <;> first | exact hpos h | exact h rfl | omega)]
  simp
theorem getN_some {most n : Nat} {b y : List UInt8} (h : getN most b = some (n, y)) : b = encN n ++ y ∧ n ≤ most ∧ n ≤ 1099511627776 := by
  unfold getN at h
  split at h
  · cases h
  · rename_i hc
    have h1 : (dec 6 b).1 ≠ 0 := fun e => hc (.inl e)
    have h2 : (dec 6 b).1 = (encN (dec 6 b).2).length := Decidable.byContradiction fun e => hc (.inr (.inl e))
    obtain ⟨rfl, rfl⟩ : (dec 6 b).2 = n ∧ b.drop (dec 6 b).1 = y := by simpa using h
    have := (dec_enc 6 b h1).2 h2.symm
    exact ⟨by rw [← this, List.take_append_drop], by omega, by omega⟩
end Go.Agg
/-! The document's bytes of a built: the plain law. -/
namespace Go.Proofs.YtniibcgomnjfgaaGreat
open Go.RowKit Pl Go.Agg
def pathB (p : P20) : List UInt8 := p.1.1 ++ (encN p.1.2.length ++ p.1.2)
def madeB (m : Md) : List UInt8 := m.1.1 ++ pathB m.2
def insBy (l : List Md) : List UInt8 := l.flatMap madeB
def valB (x : Bu) : List UInt8 := pathB x.pa ++ encN x.ins.length ++ insBy x.ins
theorem encN_inj {m n : Nat} {r s : List UInt8} (hm : m ≤ 1099511627776) (hn : n ≤ 1099511627776) (h : encN m ++ r = encN n ++ s) : m = n ∧ r = s := by
  have h1 := getN_enc (most := 1099511627776) hm hm r
  rw [h, getN_enc hn hn s] at h1
  simp only [Option.some.injEq, Prod.mk.injEq] at h1
  exact ⟨h1.1.symm, h1.2.symm⟩
theorem pathB_inj {p q : P20} {r s : List UInt8} (hp : p.1.2.length ≤ 1099511627776) (hq : q.1.2.length ≤ 1099511627776) (h : pathB p ++ r = pathB q ++ s) : p = q ∧ r = s := by
  simp only [pathB, List.append_assoc] at h
  obtain ⟨h1, h2⟩ := List.append_inj h (by rw [p.2, q.2])
  obtain ⟨h3, h4⟩ := encN_inj hp hq h2
  obtain ⟨h5, h6⟩ := List.append_inj h4 h3
  exact ⟨Subtype.ext (Prod.ext h1 h5), h6⟩
theorem madeB_inj {a b : Md} {r s : List UInt8} (ha : a.2.1.2.length ≤ 1099511627776) (hb : b.2.1.2.length ≤ 1099511627776) (h : madeB a ++ r = madeB b ++ s) : a = b ∧ r = s := by
  simp only [madeB, List.append_assoc] at h
  obtain ⟨h1, h2⟩ := List.append_inj h (by rw [a.1.2, b.1.2])
  obtain ⟨h3, h4⟩ := pathB_inj ha hb h2
  exact ⟨Prod.ext (Subtype.ext h1) h3, h4⟩
theorem insBy_inj : ∀ (a b : List Md), a.length = b.length → (∀ m ∈ a, m.2.1.2.length ≤ 1099511627776) → (∀ m ∈ b, m.2.1.2.length ≤ 1099511627776) → insBy a = insBy b → a = b
  | [], [], _, _, _, _ => rfl
  | [], _ :: _, h, _, _, _ => by simp at h
  | _ :: _, [], h, _, _, _ => by simp at h
  | x :: a, y :: b, h, ha, hb, e => by
    simp only [insBy, List.flatMap_cons] at e
    obtain ⟨h1, h2⟩ := madeB_inj (ha x (List.mem_cons_self)) (hb y (List.mem_cons_self)) e
    rw [h1, insBy_inj a b (by simpa using h) (fun m hm => ha m (List.mem_cons_of_mem _ hm)) (fun m hm => hb m (List.mem_cons_of_mem _ hm)) h2]
theorem right_name {x : Bu} (h : rightBu x = true) : x.pa.1.2.length ≤ 24 ∧ x.ins.length ≤ 8 ∧ ∀ m ∈ x.ins, m.2.1.2.length ≤ 24 := by
  simp only [rightBu, insB, Bool.and_eq_true, decide_eq_true_eq, List.all_eq_true] at h
  exact ⟨isName_le h.1, h.2.2.2.1, fun m hm => isName_le (h.2.2.2.2.2 m hm)⟩
theorem valB_inj {x y : Bu} (hx : rightBu x = true) (hy : rightBu y = true) (h : valB x = valB y) : x.pa = y.pa ∧ x.ins = y.ins := by
  obtain ⟨a1, a2, a3⟩ := right_name hx
  obtain ⟨b1, b2, b3⟩ := right_name hy
  simp only [valB, List.append_assoc] at h
  obtain ⟨h1, h2⟩ := pathB_inj (by omega) (by omega) h
  obtain ⟨h3, h4⟩ := encN_inj (by omega) (by omega) h2
  exact ⟨h1, insBy_inj _ _ h3 (fun m hm => by have := a3 m hm; omega) (fun m hm => by have := b3 m hm; omega) h4⟩
theorem insBy_len : ∀ (l : List Md), (∀ m ∈ l, m.2.1.2.length ≤ 24) → (insBy l).length ≤ l.length * 65
  | [], _ => by simp [insBy]
  | m :: l, h => by
    have ih := insBy_len l (fun x hx => h x (List.mem_cons_of_mem _ hx))
    have h1 := h m List.mem_cons_self
    have h2 : (encN m.2.1.2.length).length = 1 := by rw [encN_lt (by omega)]; rfl
    simp only [insBy, List.flatMap_cons, List.length_append, madeB, pathB, m.1.2, m.2.2, h2, List.length_cons] at ih ⊢
    omega
/-- the document's row is the same just of the same right one -/
theorem same_iff {x y : Bu} (hx : rightBu x = true) (hy : rightBu y = true) : (plS x = plS y ∧ valB x = valB y) ↔ x = y := by
  constructor
  · rintro ⟨h1, h2⟩
    obtain ⟨h3, h4⟩ := valB_inj hx hy h2
    exact bu_ext ((plS_eq hx hy).1 h1) h3 h4
  · rintro rfl; exact ⟨rfl, rfl⟩
end Go.Proofs.YtniibcgomnjfgaaGreat
/-! (of general use) spenceref03: bit, Letters, value, within. -/
namespace Go.Proofs.YtniibcgomnjfgaaGreat
open Go.RowKit Pl
theorem within_any (c lo hi : Int) (w : World) :
    Calls Tryz.prog 108 #[.int .u8 c, .int .u8 lo, .int .u8 hi] w fun e w' => e = .returned (.bool (wi c lo hi)) ∧ w = w' := by
  by_cases h : lo ≤ c
  · go_enter Tryz.func108, Tryz.ntmps108
    go_wp2_with fail
    go_ret
    exact ⟨by simp [wi, h], rfl⟩
  · have hd : decide (lo ≤ c) = false := by simp; omega
    go_enter Tryz.func108, Tryz.ntmps108
    go_wp2_with fail
    go_ret
    exact ⟨by simp [wi, hd], rfl⟩
/-- bit i of a hash, as a number -/
def bitAt (h : List UInt8) (i : Nat) : Nat := num 256 (nats h) / 2 ^ i % 2
theorem bitAt_eq (h : List UInt8) (i : Nat) (hi : i / 8 < h.length) : bitAt h i = (h[i / 8]?.getD 0).toNat / 2 ^ (i % 8) % 2 := by
  have hd := digs_num 256 (nats h) (nats_lt h)
  have hq := digs_getElem? 256 (nats h).length (num 256 (nats h)) (i / 8) (by simpa [nats] using hi)
  rw [hd] at hq
  have hn : (nats h)[i / 8]? = some (h[i / 8]?.getD 0).toNat := by simp [nats, List.getElem?_eq_getElem hi]
  rw [hn] at hq
  have hx := Option.some.inj hq
  unfold bitAt
  have e : num 256 (nats h) / 2 ^ i = num 256 (nats h) / 256 ^ (i / 8) / 2 ^ (i % 8) := by
    rw [pow256, Nat.div_div_eq_div_mul, ← Nat.pow_add, Nat.div_add_mod]
  rw [e, hx]
  generalize num 256 (nats h) / 256 ^ (i / 8) = y
  have hr : i % 8 < 8 := Nat.mod_lt _ (by omega)
  generalize i % 8 = r at hr
  have : r = 0 ∨ r = 1 ∨ r = 2 ∨ r = 3 ∨ r = 4 ∨ r = 5 ∨ r = 6 ∨ r = 7 := by omega
  rcases this with rfl | rfl | rfl | rfl | rfl | rfl | rfl | rfl <;> omega
/-- a letter's value, or -1 -/
def valI (c : UInt8) : Int := match val c with | some n => (n : Int) | none => -1
/-- the higher bits of letter i, from t on -/
def part (h : List UInt8) (i t : Nat) : Nat := num 256 (nats h) / 2 ^ (5 * i + t) % 2 ^ (5 - t)
theorem part_lt (h : List UInt8) (i t : Nat) : part h i t < 32 :=
  Nat.lt_of_lt_of_le (Nat.mod_lt _ (Nat.pow_pos (by omega))) (Nat.pow_le_pow_right (n := 2) (by omega) (by omega : 5 - t ≤ 5))
theorem part_5 (h : List UInt8) (i : Nat) : part h i 5 = 0 := by simp [part, Nat.mod_one]
theorem part_0 (h : List UInt8) (i : Nat) : part h i 0 = num 256 (nats h) / 32 ^ i % 32 := by simp [part, pow32]
theorem part_step (h : List UInt8) (i t : Nat) (ht : t < 5) : part h i t = 2 * part h i (t + 1) + bitAt h (5 * i + t) := by
  unfold part bitAt
  rw [show 5 - t = (5 - (t + 1)) + 1 by omega, Nat.pow_succ', Nat.mod_mul, Nat.div_div_eq_div_mul, ← Nat.pow_succ, show (5 * i + t).succ = 5 * i + (t + 1) by omega]
  omega
theorem bitAt_lt (h : List UInt8) (i : Nat) : bitAt h i < 2 := Nat.mod_lt _ (by omega)
theorem refLetters_step (h : List UInt8) (k : Nat) (hk : k < 32) : ({ data := (List.take k (letters h)).toArray } : ByteArray) ++
    ByteArray.extract ⟨#[48, 49, 50, 51, 52, 53, 54, 55, 56, 57, 97, 98, 99, 100, 102, 103, 104, 105, 106, 107, 108, 109, 110, 112, 113, 114, 115, 118, 119, 120, 121, 122]⟩ (part h k 0) (part h k 0 + 1) = { data := (List.take (k + 1) (letters h)).toArray } := by
  show ({ data := (List.take k (letters h)).toArray } : ByteArray) ++ ByteArray.extract ⟨alpha.toArray⟩ (part h k 0) (part h k 0 + 1) = { data := (List.take (k + 1) (letters h)).toArray }
  have hp := part_lt h k 0
  have hl : k < (letters h).length := by rw [letters_length]; exact hk
  rw [Agg.bytes_extract, Agg.bytes_append, List.take_succ_eq_append_getElem hl]
  congr 3
  have ha : part h k 0 < alpha.length := hp
  rw [List.take_succ_eq_append_getElem ha, List.drop_append_of_le_length (by simp; omega), List.drop_eq_nil_of_le (by simp; omega), List.nil_append]
  congr 1
  have : (letters h)[k]? = some (letter (part h k 0)) := by
    unfold letters
    rw [List.getElem?_map, digs_getElem? _ _ _ _ hk, part_0]; rfl
  rw [List.getElem?_eq_getElem hl] at this
  rw [Option.some.inj this]
  simp [letter, List.getD, List.getElem?_eq_getElem ha]
end Go.Proofs.YtniibcgomnjfgaaGreat
/-! spenceref03.Name. -/
namespace Go.Proofs.YtniibcgomnjfgaaGreat
open Go.RowKit Pl
/-- the test of spenceref03.Name: not a sign -/
theorem sgn_wi (c : UInt8) : sgn c = (wi c.toNat 97 122 || wi c.toNat 65 90 || wi c.toNat 48 57 || ((c.toNat : Int) == 46) || ((c.toNat : Int) == 95) || ((c.toNat : Int) == 43) || ((c.toNat : Int) == 45)) := by
  have : ∀ n : Nat, n < 256 → sgn (UInt8.ofNat n) = (wi n 97 122 || wi n 65 90 || wi n 48 57 || ((n : Int) == 46) || ((n : Int) == 95) || ((n : Int) == 43) || ((n : Int) == 45)) := by decide +kernel
  have h := this c.toNat c.toNat_lt
  rwa [UInt8.ofNat_toNat] at h
theorem n45 {x : Int} (h : (x != 45) = false) : x = 45 := by simpa using h
set_option maxRecDepth 100000 in
set_option maxHeartbeats 2000000 in
theorem refName_any (s : List UInt8) (hs : s.length ≤ 9223372036854775807) (w : World) :
    Calls Tryz.prog 72 #[.string ⟨s.toArray⟩] w fun e w' => e = .returned (.bool (isName s)) ∧ w = w' := by
  have hsz := Agg.bytes_size s
  have HS := Lib.hid hsz
  have hlen : ∀ w, (Builtin.len_ #[9] 3 #[.string ⟨s.toArray⟩]).run Tryz.prog w = .ok (.int .i64 (s.length : Int)) w := fun w => by rw [run_len_string w 9 3 _ Tryz.underlying9, hsz]; rfl
  clear hsz
  go_enter Tryz.func72, Tryz.ntmps72
  go_wp2_with fail
  go_loop [3] (fun i => ∃ k : Nat, k ≤ s.length ∧ i = .int .i64 k ∧ ∀ j (hj : j < s.length), j < k → sgn s[j] = true) (fun i => s.length - (intOf i).toNat)
  case atStart => exact ⟨0, by omega, rfl, by intros; omega⟩
  case round =>
    obtain ⟨k, hk, rfl, hg⟩ := hrel
    have HG := Lib.hid hg
    clear hg
    by_cases hlt : k < s.length
    · have hix := fun w => Agg.run_index_str (P := Tryz.prog) (k := .i64) (c := s[k]) w Tryz.underlying9 (List.getElem?_eq_getElem hlt)
      have hsg := sgn_wi s[k]
      have HS := Lib.hid hsg
      clear hsg
      generalize hc : s[k] = c at hix HS
      have HC := Lib.hid hc
      clear hc
      go_wp2_with (go_at_call 108; refine (within_any _ _ _ _).mono ?_; rintro e w' ⟨rfl, rfl⟩)
      · have h45 : ((c.toNat : Int) != 45) = true := by assumption
        have hsg : sgn s[k] = false := by rw [HC.out, HS.out]; simp [*]; simpa using h45
        go_ret
        exact ⟨ret_bool (isName_bad s k hlt hsg).symm, rfl⟩
      all_goals
        have hsg : sgn s[k] = true := by rw [HC.out, HS.out]; first | (simp [*]; done) | (have h45 := n45 ‹((c.toNat : Int) != 45) = false›; simp [h45]; done)
        go_round
        case rel => exact ⟨k + 1, by omega, by go_num, fun j hj h => by
          rcases Nat.lt_or_ge j k with h' | h'
          · exact HG.out j hj h'
          · obtain rfl : j = k := by omega
            exact hsg⟩
        case measure => simp [intOf]; omega
    · obtain rfl : k = s.length := by omega
      have hgood := isName_good s (fun j hj => HG.out j hj hj)
      have HI := Lib.hid hgood
      clear hgood
      cases s with
      | nil =>
        simp only [List.length_nil] at hlen
        go_wp2_with fail
        go_ret
        exact ⟨ret_bool (by rw [HI.out]; rfl), rfl⟩
      | cons c l =>
        have hix : ∀ w, (Instr.index 9 (.string ⟨(c :: l).toArray⟩) (.int .i64 0)).run Tryz.prog w = .ok (.int .u8 (c.toNat : Int)) w := fun w => Agg.run_index_str (i := 0) w Tryz.underlying9 rfl
        simp only [List.length_cons] at hlen
        go_wp2_with fail
        all_goals go_ret
        all_goals refine ⟨ret_bool ?_, rfl⟩
        all_goals rw [HI.out]
        · have h24 : (l.length : Int) + 1 ≤ 24 := by assumption
          have e : (((c.toNat : Int)) != 46) = (c != 46) := by
            rw [Bool.eq_iff_iff]; simp only [bne_iff_ne, ne_eq]; rw [← UInt8.toNat_inj]; simp; omega
          simp [e, show l.length + 1 ≤ 24 by omega]
        · have h24 : 24 < (l.length : Int) + 1 := by assumption
          simp [show ¬ l.length + 1 ≤ 24 by omega]
end Go.Proofs.YtniibcgomnjfgaaGreat
/-! spenceref22.Right of any built. -/
namespace Go.Proofs.YtniibcgomnjfgaaGreat
open Go.RowKit Pl Go.Agg
set_option maxRecDepth 100000 in
set_option maxHeartbeats 4000000 in
theorem refRightB_any (x : BuV) (hn : x.1.pa.1.2.length ≤ 1048576) (hni : ∀ m ∈ x.1.ins, m.2.1.2.length ≤ 1048576) (w : World) (hi : InsAt w x) :
    Calls Tryz.prog 45 #[.agg (bC x)] w fun e w' => e = .returned (.bool (rightBu x.1)) ∧ Below w.heap.size w w' := by
  have HE := Lib.hid (show MdsAt w (ivV x.2) x.1.ins from hi)
  have HNI := Lib.hid hni
  have hlv := fun W => mds_len (w := w) (l := x.1.ins) hi W
  obtain ⟨a1, ha1⟩ : ∃ b, isName x.1.pa.1.2 = b := ⟨_, rfl⟩
  have HNM := Lib.hid (fun W => (show Calls Tryz.prog 72 #[.string ⟨x.1.pa.1.2.toArray⟩] W fun e w' => e = .returned (.bool a1) ∧ W = w' by have := refName_any x.1.pa.1.2 (by omega) W; rwa [ha1] at this))
  have HR := Lib.hid (show rightBu x.1 = (a1 && (decide (1 ≤ x.1.by_) && (decide (x.1.by_ ≤ 16) && (decide (x.1.ins.length ≤ 8) && insB x.1.ins)))) by unfold rightBu; rw [ha1])
  clear hi ha1 hni
  go_enter Tryz.func45, Tryz.ntmps45
  go_wp2_with (first | (with_reducible refine wpList_box rfl 29 _ rfl (bC x) rfl ?_; intro g w1 hb1 hx1 hg1; have HL := Lib.hid (BuG.of_blk hb1); have HX := Lib.hid hx1; clear hb1 hx1 hg1) | (with_reducible refine wpList_loadL HL.out.pname rfl _ rfl rfl ?_))
  refine (HNM.out _).mono ?_
  rintro e w2 ⟨rfl, rfl⟩
  cases a1 with
  | false =>
    go_wp2_with fail
    go_ret
    exact ⟨ret_bool (by rw [HR.out]; rfl), HX.out⟩
  | true =>
  by_cases h1 : x.1.by_ < 1
  · have hd1 := decide_eq_true h1
    go_wp2_with (first | (with_reducible refine wpList_loadL HL.out.by_ rfl _ rfl rfl ?_))
    go_ret
    exact ⟨ret_bool (by rw [HR.out]; simp; omega), HX.out⟩
  have hd1 := decide_eq_false h1
  by_cases h2 : 16 < x.1.by_
  · have hd2 := decide_eq_true h2
    go_wp2_with (first | (with_reducible refine wpList_loadL HL.out.by_ rfl _ rfl rfl ?_))
    go_ret
    exact ⟨ret_bool (by rw [HR.out]; simp; omega), HX.out⟩
  have hd2 := decide_eq_false h2
  by_cases h3 : 8 < (x.1.ins.length : Int)
  · have hd3 := decide_eq_true h3
    go_wp2_with (first | (with_reducible refine wpList_loadL HL.out.by_ rfl _ rfl rfl ?_) | (with_reducible refine wpList_loadL HL.out.ins rfl _ rfl rfl ?_))
    go_ret
    exact ⟨ret_bool (by rw [HR.out]; simp; omega), HX.out⟩
  have hd3 := decide_eq_false h3
  have HR := Lib.hid (show rightBu x.1 = insB x.1.ins by rw [HR.out]; simp [show (1 : Int) ≤ x.1.by_ by omega, show x.1.by_ ≤ 16 by omega, show x.1.ins.length ≤ 8 by omega])
  have hl8 : x.1.ins.length ≤ 8 := by omega
  clear h1 h2 h3
  go_wp2_with (first | (with_reducible refine wpList_loadL HL.out.by_ rfl _ rfl rfl ?_) | (with_reducible refine wpList_loadL HL.out.ins rfl _ rfl rfl ?_))
  go_loopw [3] (fun i wr => ∃ k : Nat, k ≤ x.1.ins.length ∧ i = .int .i64 (k : Int) ∧ insB (x.1.ins.take k) = true ∧ Below w1.heap.size w1 wr) (fun i _ => x.1.ins.length - (intOf i).toNat)
  case atStart => exact ⟨0, by omega, rfl, rfl, Below.refl _ _⟩
  case round =>
    obtain ⟨wr1, rfl⟩ : ∃ y : World, y = wr := ⟨_, rfl⟩
    obtain ⟨k, hk, rfl, hin, hw⟩ := hrel
    have HI := Lib.hid hin
    have HW := Lib.hid hw
    have HL2 := Lib.hid (HL.out.below hw)
    have HX2 := Lib.hid (Agg.belowThen HX.out (Nat.le_refl _) hw)
    clear hin hw
    by_cases hlt : k < x.1.ins.length
    · have hd : decide ((k : Int) < (x.1.ins.length : Int)) = true := decide_eq_true (by omega)
      obtain ⟨m, hmk⟩ : ∃ m, x.1.ins[k]? = some m := ⟨_, List.getElem?_eq_getElem hlt⟩
      obtain ⟨q, hadr, hq⟩ := mds_at (HE.out.below HX2.out) k m hmk
      have HQ0 := Lib.hid hq
      have HK := Lib.hid (show x.1.ins.take (k + 1) = x.1.ins.take k ++ [m] by rw [List.take_add_one, hmk]; rfl)
      have hml := HNI.out m (List.mem_of_getElem? hmk)
      clear hq hmk
      go_wp2_with (first | (with_reducible refine wpList_loadL HL2.out.ins rfl _ rfl rfl ?_) | (with_reducible refine wpList_loadL HQ0.out.pname rfl _ rfl rfl ?_))
      refine (refName_any m.2.1.2 (by omega) _).mono ?_
      rintro e w6 ⟨rfl, rfl⟩
      cases hnm : isName m.2.1.2 with
      | false =>
        have hfl : insB x.1.ins = false := insB_false (k := k + 1) (by rw [HK.out, insB_snoc, hnm]; simp)
        go_wp2_with fail
        go_ret
        exact ⟨ret_bool (by rw [HR.out]; exact hfl.symm), HX2.out⟩
      | true =>
      have HNN := Lib.hid hnm
      clear hnm
      go_wp2_with fail
      go_loopw [4] (fun i ws => ∃ j : Nat, j ≤ k ∧ i = .int .i64 (j : Int) ∧ (¬ m.1 ∈ (x.1.ins.take j).map (·.1)) ∧ Below wr1.heap.size wr1 ws) (fun i _ => k - (intOf i).toNat)
      case atStart => exact ⟨0, by omega, rfl, by simp, Below.refl _ _⟩
      case round =>
        obtain ⟨ws1, rfl⟩ : ∃ y : World, y = wr := ⟨_, rfl⟩
        obtain ⟨j, hj, rfl, hno, hws⟩ := hrel
        have HNO := Lib.hid hno
        have HWS := Lib.hid hws
        have HLB := Lib.hid (HL2.out.below hws)
        have HQ := Lib.hid (HQ0.out.below hws)
        have HX3 := Lib.hid (Agg.belowThen HX2.out (Nat.le_refl _) hws)
        clear hno hws
        by_cases hjk : j < k
        · have hdj : decide ((j : Int) < (k : Int)) = true := decide_eq_true (by omega)
          obtain ⟨y, hyj⟩ : ∃ y, x.1.ins[j]? = some y := ⟨_, List.getElem?_eq_getElem (by omega)⟩
          obtain ⟨q2, hadr2, hq2⟩ := mds_at (HE.out.below HX3.out) j y hyj
          have HQ2 := Lib.hid hq2
          have HJ := Lib.hid (show x.1.ins.take (j + 1) = x.1.ins.take j ++ [y] by rw [List.take_add_one, hyj]; rfl)
          have HMEM := Lib.hid (show y.1 ∈ (x.1.ins.take k).map (·.1) from List.mem_map.2 ⟨y, List.mem_of_getElem? (by rw [List.getElem?_take, if_pos hjk]; exact hyj), rfl⟩)
          obtain ⟨e1, h1⟩ : ∃ e, decide (y.1 = m.1) = e := ⟨_, rfl⟩
          have HE1 := Lib.hid h1
          have HE := Lib.hid (fun W => (show (binOp .eql 24 (.agg (hC y.1.1)) (.agg (hC m.1.1))).run Tryz.prog W = .ok (.bool e1) W by rw [eqlHB, h1]))
          clear hq2 hyj h1
          go_wp2_with fail
          try simp only [List.append_eq, List.cons_append, List.nil_append]
          try simp only [Act.put, List.setIfInBounds_toArray, List.set_cons_succ, List.set_cons_zero]
          refine Agg.wp_region_later_lit (by kernel_rfl) (by kernel_rfl) ?_
          repeat (first | go_big_quiet_skip | ((first | (with_reducible refine Agg.wpQuiet_loadL HLB.out.ins rfl _ rfl rfl ?_) | (with_reducible refine Agg.wpQuiet_loadL HQ2.out.cls rfl _ rfl rfl ?_) | (with_reducible refine Agg.wpQuiet_loadL HQ.out.cls rfl _ rfl rfl ?_) | (with_reducible refine Agg.wpQuiet_eql rfl 24 24 _ _ rfl (hC y.1.1) (hC m.1.1) rfl rfl _ (by kernel_rfl) HE.out ?_)); simp only [Act.put, List.setIfInBounds_toArray, List.set_cons_succ, List.set_cons_zero]) | go_big_quiet_step (fail))
          refine wpQuiet_nil ?_
          intro _ hw'
          obtain ⟨x9, rfl⟩ := hw'
          cases e1 with
          | true =>
            have hem : y.1 = m.1 := of_decide_eq_true HE1.out
            have hfl : insB x.1.ins = false := insB_false (k := k + 1) (by rw [HK.out, insB_snoc, decide_eq_true (show m.1 ∈ (x.1.ins.take k).map (·.1) by rw [← hem]; exact HMEM.out)]; simp)
            go_wp2_with fail
            go_ret
            exact ⟨ret_bool (by rw [HR.out]; exact hfl.symm), Agg.belowThen HX3.out (Nat.le_refl _) x9.h⟩
          | false =>
            go_wp2_with fail
            go_roundw
            case rel => exact ⟨j + 1, by omega, by go_num, by
              rw [HJ.out, List.map_append, List.mem_append]
              rintro (h | h)
              · exact HNO.out h
              · have h' : m.1 = y.1 := by simpa using h
                exact of_decide_eq_false HE1.out h'.symm, Agg.belowThen HWS.out (Nat.le_refl _) x9.h⟩
            case measure => simp [intOf]; omega
        · obtain rfl : j = k := by omega
          have hdj : decide ((j : Int) < (j : Int)) = false := by simp
          go_wp2_with fail
          go_roundw
          case rel => exact ⟨j + 1, by omega, by go_num, by rw [HK.out, insB_snoc, HI.out, HNN.out, decide_eq_false HNO.out]; rfl, Agg.belowThen HW.out (Nat.le_refl _) HWS.out⟩
          case measure => simp [intOf]; omega
    · obtain rfl : k = x.1.ins.length := by omega
      have hd : decide ((x.1.ins.length : Int) < (x.1.ins.length : Int)) = false := by simp
      rw [List.take_length] at HI
      go_wp2_with (first | (with_reducible refine wpList_loadL HL2.out.ins rfl _ rfl rfl ?_))
      go_ret
      exact ⟨ret_bool (by rw [HR.out]; exact HI.out.symm), HX2.out⟩
end Go.Proofs.YtniibcgomnjfgaaGreat
