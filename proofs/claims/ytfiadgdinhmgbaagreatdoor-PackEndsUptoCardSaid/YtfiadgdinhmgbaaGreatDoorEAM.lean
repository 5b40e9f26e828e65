/- What is read off an archive: nothing grows. No program in sight. (Several texts in one.) -/
import Derived.Test.YtfiadgdinhmgbaaGreatDoorEAJ
import Derived.Test.YtfiadgdinhmgbaaGreatDoorEAK
import Derived.WalkMore
import Derived.Test.YtfiadgdinhmgbaaGreatDoorEAA
import Derived.Test.YtfiadgdinhmgbaaGreatDoorEAI
import Derived.Test.YtfiadgdinhmgbaaGreatDoorEAH
/-! Numbers out of bytes: the plain law of code.Cursor. -/
namespace Go.Agg
def numGo : Nat → Nat → List UInt8 → Nat × Nat
 | _, n, [] => (0, n)
 | k, n, c :: t => if k = 6 then (0, n) else if c.toNat < 128 then (k + 1, n + c.toNat * 128 ^ k) else numGo (k + 1) (n + c.toNat % 128 * 128 ^ k) t
def dec : Nat → List UInt8 → Nat × Nat
 | _, [] => (0, 0)
 | 0, _ :: _ => (0, 0)
 | f + 1, c :: t => if c.toNat < 128 then (1, c.toNat) else if (dec f t).1 = 0 then (0, 0) else ((dec f t).1 + 1, c.toNat % 128 + 128 * (dec f t).2)
theorem numGo_dec : ∀ (l : List UInt8) (k n : Nat), k ≤ 6 → if (dec (6 - k) l).1 = 0 then (numGo k n l).1 = 0 else numGo k n l = (k + (dec (6 - k) l).1, n + (dec (6 - k) l).2 * 128 ^ k) := by
 intro l
 induction l with
 | nil => intro k n _; cases h : 6 - k <;> simp [dec, numGo]
 | cons c t ih =>
  intro k n hk
  by_cases h6 : k = 6
  ·subst h6; simp [dec, numGo]
  ·have hf : 6 - k = (6 - (k + 1)) + 1 := by omega
   rw [hf]
   simp only [dec, numGo, if_neg h6]
   by_cases hc : c.toNat < 128
   ·simp [hc]
   ·simp only [if_neg hc]
    have := ih (k + 1) (n + c.toNat % 128 * 128 ^ k) (by omega)
    by_cases h0 : (dec (6 - (k + 1)) t).1 = 0
    ·rw [if_pos h0] at this ⊢
     simpa using this
    ·rw [if_neg h0] at this
     rw [if_neg h0]
     simp only [if_neg (show ¬ (dec (6 - (k + 1)) t).1 + 1 = 0 by omega)]
     rw [this]
     refine Prod.ext (by show k + 1 + _ = k + (_ + 1); omega) ?_
     show n + c.toNat % 128 * 128 ^ k + (dec (6 - (k + 1)) t).2 * 128 ^ (k + 1) = n + (c.toNat % 128 + 128 * (dec (6 - (k + 1)) t).2) * 128 ^ k
     rw [Nat.pow_succ, Nat.add_mul, ← Nat.add_assoc]
     congr 1
     rw [Nat.mul_comm 128, Nat.mul_assoc, Nat.mul_comm (128 ^ k) 128]
theorem dec_le : ∀ (f : Nat) (l : List UInt8), (dec f l).1 ≤ f ∧ (dec f l).1 ≤ l.length ∧ (dec f l).2 < 128 ^ f := by
 intro f
 induction f with
 | zero => intro l; cases l <;> simp [dec]
 | succ f ih =>
  intro l
  cases l with
  | nil => simp [dec]; exact Nat.pow_pos (by omega)
  | cons c t =>
   obtain ⟨h1, h2, h3⟩ := ih t
   simp only [dec]
   have hp : 0 < 128 ^ f := Nat.pow_pos (by omega)
   rw [Nat.pow_succ]
   split
   ·refine ⟨by show 1 ≤ f + 1; omega, by simp, ?_⟩
    show c.toNat < 128 ^ f * 128
    omega
   ·split
    ·refine ⟨by simp, by simp, ?_⟩
     show 0 < 128 ^ f * 128
     omega
    ·refine ⟨by show _ + 1 ≤ _; omega, by show _ + 1 ≤ (c :: t).length; simp only [List.length_cons]; omega, ?_⟩
     show c.toNat % 128 + 128 * (dec f t).2 < 128 ^ f * 128
     have : c.toNat % 128 < 128 := Nat.mod_lt _ (by omega)
     omega
theorem dec_enc : ∀ (f : Nat) (l : List UInt8), (dec f l).1 ≠ 0 → (encN (dec f l).2).length ≤ (dec f l).1 ∧ ((encN (dec f l).2).length = (dec f l).1 → l.take (dec f l).1 = encN (dec f l).2) := by
 intro f
 induction f with
 | zero => intro l h; cases l <;> simp [dec] at h
 | succ f ih =>
  intro l h
  cases l with
  | nil => simp [dec] at h
  | cons c t =>
   simp only [dec] at h ⊢
   by_cases hc : c.toNat < 128
   ·simp only [if_pos hc]
    rw [encN_lt hc]
    simp
   ·simp only [if_neg hc] at h ⊢
    by_cases h0 : (dec f t).1 = 0
    ·simp [h0] at h
    ·simp only [if_neg h0] at h ⊢
     obtain ⟨h1, h2⟩ := ih t h0
     have hc2 := c.toNat_lt
     by_cases hv : (dec f t).2 = 0
     ·rw [hv, Nat.mul_zero, Nat.add_zero, encN_lt (Nat.mod_lt _ (by omega))]
      refine ⟨by simp, fun h => ?_⟩
      simp only [List.length_cons, List.length_nil] at h
      omega
     ·have hge : 128 ≤ c.toNat % 128 + 128 * (dec f t).2 := by omega
      have hd : (c.toNat % 128 + 128 * (dec f t).2) / 128 = (dec f t).2 := by omega
      have hm : (c.toNat % 128 + 128 * (dec f t).2) % 128 = c.toNat % 128 := by omega
      rw [encN_ge hge, hd, hm]
      refine ⟨by simp only [List.length_cons]; omega, fun h => ?_⟩
      simp only [List.length_cons] at h
      rw [List.take_succ_cons, h2 (by omega)]
      congr 1
      have : c.toNat % 128 + 128 = c.toNat := by omega
      rw [this]
      simp
theorem enc_dec : ∀ (f n : Nat) (y : List UInt8), n < 128 ^ f → 0 < f → dec f (encN n ++ y) = ((encN n).length, n) := by
 intro f
 induction f with
 | zero => intro n y h h0; omega
 | succ f ih =>
  intro n y h _
  by_cases hn : n < 128
  ·rw [encN_lt hn]
   have e : (UInt8.ofNat n).toNat = n := by simp; omega
   simp only [List.singleton_append, dec, e, if_pos hn]
   rfl
  ·rw [encN_ge (by omega)]
   have e : (UInt8.ofNat (n % 128 + 128)).toNat = n % 128 + 128 := by simp; omega
   have hf : 0 < f := by
    rcases Nat.eq_zero_or_pos f with h0 | h0
    ·subst h0; simp at h; omega
    ·exact h0
   have := ih (n / 128) y (by rw [Nat.pow_succ] at h; exact Nat.div_lt_of_lt_mul (by rw [Nat.mul_comm]; exact h)) hf
   have hpos : (encN (n / 128)).length ≠ 0 := by rw [encN]; split <;> simp
   simp only [List.cons_append, dec, e, if_neg (show ¬ n % 128 + 128 < 128 by omega), this, if_neg hpos, List.length_cons]
   refine Prod.ext rfl ?_
   show (n % 128 + 128) % 128 + 128 * (n / 128) = n
   omega
def getN (most : Nat) (b : List UInt8) : Option (Nat × List UInt8) :=
 if (dec 6 b).1 = 0 ∨ (dec 6 b).1 ≠ (encN (dec 6 b).2).length ∨ 1099511627776 < (dec 6 b).2 ∨ most < (dec 6 b).2 then none else some ((dec 6 b).2, b.drop (dec 6 b).1)
theorem getN_enc {most n : Nat} (h : n ≤ 1099511627776) (hm : n ≤ most) (y : List UInt8) : getN most (encN n ++ y) = some (n, y) := by
 have e := enc_dec 6 n y (by omega) (by omega)
 have hpos : (encN n).length ≠ 0 := by rw [encN]; split <;> simp
 unfold getN
 rw [e, if_neg (by rintro (h | h | h | h) <;> first | exact hpos h | exact h rfl | omega)]
 simp
theorem getN_some {most n : Nat} {b y : List UInt8} (h : getN most b = some (n, y)) : b = encN n ++ y ∧ n ≤ most ∧ n ≤ 1099511627776 := by
 unfold getN at h
 split at h
 ·cases h
 ·rename_i hc
  have h1 : (dec 6 b).1 ≠ 0 := fun e => hc (.inl e)
  have h2 : (dec 6 b).1 = (encN (dec 6 b).2).length := Decidable.byContradiction fun e => hc (.inr (.inl e))
  obtain ⟨rfl, rfl⟩ : (dec 6 b).2 = n ∧ b.drop (dec 6 b).1 = y := by simpa using h
  have := (dec_enc 6 b h1).2 h2.symm
  exact ⟨by rw [← this, List.take_append_drop], by omega, by omega⟩
end Go.Agg
/-! code.Cursor: fail, length, Num. -/
namespace Go.Proofs.YtfiadgdinhmgbaaGreatDoor
open Go.RowKit Pl Go.Agg
def cuC (v : Value) (e : Nat) : Array Value := #[v, .int .i64 (e : Int)]
theorem restKeepT {base : Nat} {w w' : World} {v : Value} {r : List UInt8} (h : Rest base w v r) (hk : ∀ (g : Nat) (cur : Array Value) (fr : Nat × Nat), w.heap[g]? = some (Obj.cells cur 5 fr) → w'.heap[g]? = some (Obj.cells cur 5 fr)) : Rest base w' v r := by
 rcases h with h | ⟨g, off, cap, cs, rfl, hle, hg, hb, hc⟩
 ·exact .inl h
 ·exact .inr ⟨g, off, cap, cs, rfl, hle, hg, hk g cs _ hb, hc⟩
structure CuV (base g : Nat) (w : World) (v : Value) (r : List UInt8) (e : Nat) : Prop where
 blk : Blk w g 94 (cuC v e)
 rest : Rest base w v r
section
variable {base g : Nat} {w w' : World} {v : Value} {r : List UInt8} {e : Nat}
theorem CuV.load (h : CuV base g w v r e) : LoadsL Tryz.prog w 23 (some ⟨g, 0, none⟩) v :=
 h.blk.one (P := Tryz.prog) 0 rfl (by kernel_rfl : Tryz.prog.underlying 23 = some (.slice 5)) rfl
theorem CuV.err (h : CuV base g w v r e) : LoadsL Tryz.prog w 35 (some ⟨g, 1, none⟩) (.int .i64 (e : Int)) :=
 h.blk.one (P := Tryz.prog) 1 rfl Tryz.underlying35 rfl
theorem CuV.below (h : CuV base g w v r e) (hb : Below w.heap.size w w') : CuV base g w' v r e := ⟨h.blk.below hb, h.rest.below hb⟩
theorem CuV.put (h : CuV base g w v r e) (i : Nat) (hi : i < 2) (u : Value) (hu : u.cells = #[u]) (h1 : u.oneCell' = true) {ty : TypeId} (hs : (Tryz.prog.info? ty).map (·.size) = some 1) :
  ∃ w', (Instr.storeAt ty (.pointer (some ⟨g, i, none⟩)) u).run Tryz.prog w = .ok () w' ∧ Blk w' g 94 ((cuC v e).setIfInBounds i u) ∧ Only (· = g) w w' ∧ (∀ {B : Nat} {x : Value} {l : List UInt8}, Rest B w x l → Rest B w' x l) := by
 refine ⟨_, h.blk.run_put i (by simpa [cuC] using hi) u hu h1 hs, h.blk.set i u, ⟨rfl, rfl, rfl, by simp [World.setCell], fun k _ hk => Below.heap_setCell _ _ _ _ hk⟩, fun {B x l} hr => restKeepT hr fun k cur fr hk => ?_⟩
 rw [Below.heap_setCell _ _ _ _ (by
  show k ≠ g
  rintro rfl
  have hb := h.blk
  unfold Blk at hb
  rw [hk] at hb
  injection hb with hb
  injection hb with _ hb
  exact absurd hb (by decide))]
 exact hk
end
set_option maxRecDepth 100000 in
set_option maxHeartbeats 1000000 in
theorem fail_any (base g : Nat) (v : Value) (r : List UInt8) (e c : Nat) (w : World) (hm : CuV base g w v r e) :
  Calls Tryz.prog 87 #[.pointer (some ⟨g, 0, none⟩), .int .i64 (c : Int)] w fun x w' => (∃ r, x = .returned r) ∧ CuV base g w' (.slice none 0 0) [] (if e = 0 then c else e) ∧ Only (· = g) w w' := by
 have HE := Lib.hid hm.err
 have HM := Lib.hid hm
 clear hm
 by_cases h0 : e = 0
 ·subst h0
  obtain ⟨w1, hrun1, hb1, ho1, hr1⟩ := HM.out.put (ty := 35) 1 (by omega) (.int .i64 (c : Int)) rfl rfl (by kernel_rfl)
  have hm1 : CuV base g w1 v r c := ⟨hb1, hr1 HM.out.rest⟩
  obtain ⟨w2, hrun2, hb2, ho2, _⟩ := hm1.put (ty := 23) 0 (by omega) (.slice none 0 0) rfl rfl (by kernel_rfl)
  have HO := Lib.hid (ho1.trans ho2 fun _ _ h => h)
  have HB := Lib.hid hb2
  clear hb1 ho1 hr1 hm1 hb2 ho2
  go_enter Tryz.func87, Tryz.ntmps87
  go_wp2_with (first | (with_reducible refine wpList_loadL HE.out rfl _ rfl rfl ?_) | (refine wpList_store rfl rfl 35 _ _ rfl (.pointer (some ⟨g, 1, none⟩)) _ rfl rfl hrun1 ?_) | (refine wpList_store rfl rfl 23 _ _ rfl (.pointer (some ⟨g, 0, none⟩)) _ rfl rfl hrun2 ?_))
  refine bodyPost_end (results_none rfl _ _ _) rfl ?_
  exact ⟨⟨_, rfl⟩, ⟨HB.out, .inl ⟨rfl, rfl⟩⟩, HO.out⟩
 ·obtain ⟨w2, hrun2, hb2, ho2, _⟩ := HM.out.put (ty := 23) 0 (by omega) (.slice none 0 0) rfl rfl (by kernel_rfl)
  have hq : ((e : Int) == 0) = false := by simp [h0]
  have HH := Lib.hid h0
  have HO := Lib.hid ho2
  have HB := Lib.hid hb2
  clear hb2 ho2 h0
  go_enter Tryz.func87, Tryz.ntmps87
  go_wp2_with (first | (with_reducible refine wpList_loadL HE.out rfl _ rfl rfl ?_) | (refine wpList_store rfl rfl 23 _ _ rfl (.pointer (some ⟨g, 0, none⟩)) _ rfl rfl hrun2 ?_))
  refine bodyPost_end (results_none rfl _ _ _) rfl ?_
  exact ⟨⟨_, rfl⟩, ⟨HB.out, .inl ⟨rfl, rfl⟩⟩, HO.out⟩
set_option maxRecDepth 100000 in
set_option maxHeartbeats 1000000 in
theorem length_any (n : Nat) (w : World) (hn : n < 4398046511104) :
  Calls Tryz.prog 86 #[.int .u64 (n : Int)] w fun e w' => e = .returned (.int .i64 ((encN n).length : Int)) ∧ w' = w := by
 go_enter Tryz.func86, Tryz.ntmps86
 go_wp2_with fail
 go_loopw [0, 3] (fun x m wr => ∃ k j : Nat, x = .int .u64 (k : Int) ∧ m = .int .i64 (j : Int) ∧ k < 4398046511104 ∧ j ≤ 100 ∧ j + (encN k).length = (encN n).length + 1 ∧ wr = w) (fun x _ _ => (intOf x).toNat)
 case atStart => exact ⟨n, 1, rfl, rfl, hn, by omega, by omega, rfl⟩
 case round =>
  obtain ⟨k, j, rfl, rfl, hk, hj, heq, rfl⟩ := hrel
  have h7 : (encN n).length ≤ 6 := encN_len' 6 n (by omega) (by omega)
  have hpos : 0 < (encN k).length := by rw [encN]; split <;> simp
  by_cases hlt : 128 ≤ k
  ·have hI : (128 : Int) ≤ (k : Int) := by omega
   have hE := encN_ge hlt
   have HE := Lib.hid (show j + 1 + (encN (k / 128)).length = (encN n).length + 1 by rw [hE] at heq; simp only [List.length_cons] at heq; omega)
   have hj6 : j ≤ 6 := by omega
   clear hE heq hpos
   go_wp2_with fail
   go_roundw
   case rel => exact ⟨k / 128, j + 1, by go_num, by go_num, by omega, by omega, HE.out, trivial⟩
   case measure => simp [intOf]; omega
  ·have hI : ¬ (128 : Int) ≤ (k : Int) := by omega
   have hj2 : (j : Int) = ((encN n).length : Int) := by rw [encN_lt (by omega)] at heq; simp only [List.length_cons, List.length_nil] at heq; omega
   have HJ := Lib.hid hj2
   clear hj2 heq hpos
   go_wp2_with fail
   go_ret
   exact ⟨by rw [← HJ.out]; rfl, rfl⟩
end Go.Proofs.YtfiadgdinhmgbaaGreatDoor
/-! code.Cursor.Num. -/
namespace Go.Proofs.YtfiadgdinhmgbaaGreatDoor
open Go.RowKit Pl Go.Agg
theorem runLow (p : Option Addr) (n c k : Nat) (hk : k ≤ n) (W : World) : (Instr.sliceAt 23 (.slice p n c) (some (.int .i64 (k : Int))) none none).run Tryz.prog W = .ok (.slice (if c = k then p else p.map (·.add k)) (n - k) (c - k)) W := by
 have hu : Tryz.prog.underlying 23 = some (.slice 5) := by kernel_rfl
 simp [Instr.sliceAt, Instr.slice, Instr.sliceBounds, Instr.sliceBound, run_underlying hu, Sem.run_bind, asIntOf]
 intro h
 omega
theorem rest_low {base : Nat} {w : World} {v : Value} {r : List UInt8} (h : Rest base w v r) (k : Nat) (hk : k ≤ r.length) :
  ∃ vx, (∀ W, (Instr.sliceAt 23 v (some (.int .i64 (k : Int))) none none).run Tryz.prog W = .ok vx W) ∧ Rest base w vx (r.drop k) ∧ vx.cells = #[vx] ∧ vx.oneCell' = true := by
 have h' := h
 rcases h with ⟨rfl, rfl⟩ | ⟨g, off, cap, cs, rfl, hle, hg, hb, hsz, hc⟩
 ·obtain rfl : k = 0 := by simpa using hk
  exact ⟨_, fun W => runLow _ _ _ 0 (by omega) W, by simpa using h', rfl, rfl⟩
 ·refine ⟨_, fun W => runLow _ _ _ k hk W, ?_, rfl, rfl⟩
  by_cases hck : cap = k
  ·rw [if_pos hck, show r.length - k = 0 by omega, show cap - k = 0 by omega]
   exact h'.empty (List.drop_eq_nil_of_le (by omega))
  ·rw [if_neg hck]
   have := h'.drop k hk
   have e : (some (⟨g, off, none⟩ : Addr)).map (·.add k) = some ⟨g, off + k, none⟩ := by rw [Option.map_some, add_plain]
   rw [e]
   exact this
theorem or_shift (N x k : Nat) (hx : x < 128) (hN : N < 128 ^ k) (hk : k ≤ 5) : bits .or .u64 (N : Int) (IntKind.u64.wrap ((x : Int) * 2 ^ (7 * k))) = ((N + x * 128 ^ k : Nat) : Int) := by
 have e : 128 ^ k = 2 ^ (7 * k) := by rw [Nat.pow_mul]
 have h5 : 2 ^ (7 * k) ≤ 2 ^ 35 := Nat.pow_le_pow_right (by omega) (by omega)
 have hp : x * 2 ^ (7 * k) ≤ 128 * 2 ^ 35 := Nat.mul_le_mul (by omega) h5
 have e2 : (x : Int) * 2 ^ (7 * k) = ((x * 2 ^ (7 * k) : Nat) : Int) := by push_cast; rfl
 rw [e] at hN
 rw [e2, IntKind.wrap_u64, Int.emod_eq_of_lt (by omega) (by omega), u64_or_nat _ _ (by omega) (by omega), e, Nat.or_comm, Nat.mul_comm, ← Nat.two_pow_add_eq_or_of_lt hN, Nat.add_comm]
theorem andNot128 (b : UInt8) : bits .andNot .u8 (b.toNat : Int) 128 = ((b.toNat % 128 : Nat) : Int) := by
 have h : ∀ m : Nat, m < 256 → bits .andNot .u8 (m : Int) 128 = ((m % 128 : Nat) : Int) := by decide +kernel
 exact h _ b.toNat_lt
def CNum (base g most : Nat) (r : List UInt8) (e : Nat) (x : Ending) (w' : World) : Prop :=
 (∃ n y v', getN most r = some (n, y) ∧ x = .returned (.int .i64 (n : Int)) ∧ CuV base g w' v' y e) ∨
 (getN most r = none ∧ x = .returned (.int .i64 0) ∧ CuV base g w' (.slice none 0 0) [] (if e = 0 then 4 else e))
set_option maxRecDepth 100000 in
set_option maxHeartbeats 4000000 in
theorem cnum_any (base g most : Nat) (v : Value) (r : List UInt8) (e : Nat) (w : World) (hr : r.length ≤ 16777216) (hmo : most ≤ 1099511627776) (hm : CuV base g w v r e) :
  Calls Tryz.prog 46 #[.pointer (some ⟨g, 0, none⟩), .int .i64 (most : Int)] w fun x w' => CNum base g most r e x w' ∧ Only (· = g) w w' := by
 have hlr := fun W => bytes_len hm.rest.slice W
 have HM := Lib.hid hm
 clear hm
 go_enter Tryz.func46, Tryz.ntmps46
 go_wp2_with fail
 go_step3
 go_wp2_with (first | (with_reducible refine wpList_loadL HM.out.load rfl _ rfl rfl ?_))
 go_step3
 go_wp2_with (first | (with_reducible refine wpList_loadL HM.out.load rfl _ rfl rfl ?_))
 go_loopw [5, 6, 16] (fun n m i wr => ∃ k N : Nat, k ≤ r.length ∧ k ≤ 6 ∧ i = .int .i64 (k : Int) ∧ n = .int .u64 (N : Int) ∧ m = .int .i64 0 ∧ N < 128 ^ k ∧ numGo 0 0 r = numGo k N (r.drop k) ∧ wr = w) (fun _ _ i _ => 7 - (intOf i).toNat)
 case atStart => exact ⟨0, 0, by omega, by omega, rfl, rfl, rfl, by simp, by simp, rfl⟩
 case round =>
  obtain ⟨k, N, hkl, hk6, rfl, rfl, rfl, hN, hgo, rfl⟩ := hrel
  have HGO := Lib.hid hgo
  have HNN := Lib.hid hN
  clear hgo hN
  by_cases hlt : k < r.length
  ·obtain ⟨b, hbk⟩ : ∃ b, r[k]? = some b := ⟨_, List.getElem?_eq_getElem hlt⟩
   have hdrop : r.drop k = b :: r.drop (k + 1) := by
    obtain ⟨h1, rfl⟩ := List.getElem?_eq_some_iff.1 hbk
    exact List.drop_eq_getElem_cons h1
   obtain ⟨q, hadr, hld⟩ := byte_at HM.out.rest.slice k b hbk
   have HL := Lib.hid hld
   have hb256 : b.toNat < 256 := b.toNat_lt
   by_cases h6 : k = 6
   ·have h6I : ((k : Int) == 6) = true := by simp; omega
    have HGO := Lib.hid (show numGo 0 0 r = (0, N) by rw [HGO.out, hdrop, numGo, if_pos h6])
    clear hld hbk hdrop h6
    go_wp2_with (first | (with_reducible refine wpList_loadL HL.out rfl _ rfl rfl ?_))
    have HNONE := Lib.hid (show getN most r = none by
     have hd := numGo_dec r 0 0 (by omega)
     have h0 : (dec 6 r).1 = 0 := by
      by_cases h0 : (dec 6 r).1 = 0
      ·exact h0
      ·rw [if_neg h0, HGO.out] at hd
       have h1 : (0 : Nat) = 0 + (dec 6 r).1 := congrArg Prod.fst hd
       omega
     unfold getN
     rw [if_pos (.inl h0)])
    skip
    go_wp2_with fail
    refine (fail_any base g v r e 4 _ HM.out).mono ?_
    rintro x w9 ⟨⟨rr, rfl⟩, hcu, hon⟩
    have HCU := Lib.hid hcu
    have HON := Lib.hid hon
    clear hcu hon
    go_wp2_with fail
    try rw [Exit.noGoto_ret]
    go_ret
    exact ⟨.inr ⟨HNONE.out, rfl, HCU.out⟩, HON.out⟩

   ·have hk5 : k ≤ 5 := by omega
    have h6I : ((k : Int) == 6) = false := by simp; omega
    have HGO := Lib.hid (show numGo 0 0 r = if b.toNat < 128 then (k + 1, N + b.toNat * 128 ^ k) else numGo (k + 1) (N + b.toNat % 128 * 128 ^ k) (r.drop (k + 1)) by rw [HGO.out, hdrop, numGo, if_neg h6])
    clear hld hbk hdrop h6
    by_cases hb : b.toNat < 128
    ·have hI : (b.toNat : Int) < 128 := by omega
     obtain ⟨M, hM⟩ : ∃ M, N + b.toNat * 128 ^ k = M := ⟨_, rfl⟩
     have hor := or_shift N b.toNat k hb HNN.out hk5
     rw [hM] at hor
     have HDEC := Lib.hid (show dec 6 r = (k + 1, M) by
      have hd := numGo_dec r 0 0 (by omega)
      have hg := HGO.out
      rw [if_pos hb, hM] at hg
      rw [hg] at hd
      split at hd
      ·exact absurd hd (by simp)
      ·simp only [Nat.zero_add, Nat.pow_zero, Nat.mul_one, Nat.sub_zero] at hd
       exact hd.symm)
     have HMB := Lib.hid (show M < 4398046511104 by
      have := (dec_le 6 r).2.2
      rw [HDEC.out] at this
      exact this)
     clear hM hb
     go_wp2_with (first | (with_reducible refine wpList_loadL HL.out rfl _ rfl rfl ?_))
     refine (length_any M _ HMB.out).mono ?_
     rintro x w8 ⟨rfl, rfl⟩
     obtain ⟨ln, hln⟩ : ∃ n, (encN M).length = n := ⟨_, rfl⟩
     rw [hln]
     have HLN := Lib.hid hln
     clear hln
     by_cases h1 : k + 1 = ln
     ·have hne : ((k : Int) + 1 != (ln : Int)) = false := by simp; omega
      by_cases h2 : 1099511627776 < M
      ·have h2I : (1099511627776 : Int) < (M : Int) := by omega
       have HNONE := Lib.hid (show getN most r = none by unfold getN; rw [HDEC.out, if_pos (.inr (.inr (.inl h2)))])
       clear h1 h2
       go_wp2_with fail
       refine (fail_any base g v r e 4 _ HM.out).mono ?_
       rintro x w9 ⟨⟨rr, rfl⟩, hcu, hon⟩
       have HCU := Lib.hid hcu
       have HON := Lib.hid hon
       clear hcu hon
       go_wp2_with fail
       try rw [Exit.noGoto_ret]
       go_ret
       exact ⟨.inr ⟨HNONE.out, rfl, HCU.out⟩, HON.out⟩

      ·have h2I : ¬ (1099511627776 : Int) < (M : Int) := by omega
       by_cases h3 : most < M
       ·have h3I : (most : Int) < (M : Int) := by omega
        have HNONE := Lib.hid (show getN most r = none by unfold getN; rw [HDEC.out, if_pos (.inr (.inr (.inr h3)))])
        clear h1 h2 h3
        go_wp2_with fail
        refine (fail_any base g v r e 4 _ HM.out).mono ?_
        rintro x w9 ⟨⟨rr, rfl⟩, hcu, hon⟩
        have HCU := Lib.hid hcu
        have HON := Lib.hid hon
        clear hcu hon
        go_wp2_with fail
        try rw [Exit.noGoto_ret]
        go_ret
        exact ⟨.inr ⟨HNONE.out, rfl, HCU.out⟩, HON.out⟩

       ·have h3I : ¬ (most : Int) < (M : Int) := by omega
        have HSOME := Lib.hid (show getN most r = some (M, r.drop (k + 1)) by
         unfold getN
         rw [HDEC.out, if_neg (by
          rintro (h | h | h | h)
          ·exact absurd h (by simp)
          ·exact h (by show k + 1 = (encN M).length; rw [HLN.out]; exact h1)
          ·exact h2 h
          ·exact h3 h)])
        have h3N : ¬ most < M := h3
        have hk0 : ((k : Int) + 1 == 0) = false := by simp; omega
        have hm0 : ¬ (most : Int) < 0 := by omega
        clear h1 h2 h3
        obtain ⟨vx, hsv, hrx, hvc, hv1⟩ := rest_low HM.out.rest (k + 1) (by omega)
        rw [show ((k + 1 : Nat) : Int) = (k : Int) + 1 by omega] at hsv
        obtain ⟨w9, hrun, hb9, ho9, hr9⟩ := HM.out.put (ty := 23) 0 (by omega) vx hvc hv1 (by kernel_rfl)
        have HCU := Lib.hid (show CuV base g w9 vx (r.drop (k + 1)) e from ⟨hb9, hr9 hrx⟩)
        have HON := Lib.hid ho9
        clear hrx hvc hv1 hb9 ho9 hr9
        go_wp2_with (first | (with_reducible refine wpList_loadL HM.out.load rfl _ rfl rfl ?_) | (refine wpList_store rfl rfl 23 _ _ rfl (.pointer (some ⟨g, 0, none⟩)) _ rfl rfl hrun ?_))
        try rw [Exit.noGoto_ret]
        go_ret
        exact ⟨.inl ⟨M, _, vx, HSOME.out, rfl, HCU.out⟩, HON.out⟩
     ·have hne : ((k : Int) + 1 != (ln : Int)) = true := by simp; omega
      have HNONE := Lib.hid (show getN most r = none by unfold getN; rw [HDEC.out, if_pos (.inr (.inl (by show k + 1 ≠ (encN M).length; rw [HLN.out]; exact h1)))])
      clear h1
      go_wp2_with fail
      refine (fail_any base g v r e 4 _ HM.out).mono ?_
      rintro x w9 ⟨⟨rr, rfl⟩, hcu, hon⟩
      have HCU := Lib.hid hcu
      have HON := Lib.hid hon
      clear hcu hon
      go_wp2_with fail
      try rw [Exit.noGoto_ret]
      go_ret
      exact ⟨.inr ⟨HNONE.out, rfl, HCU.out⟩, HON.out⟩


    ·have hI : ¬ (b.toNat : Int) < 128 := by omega
     have hand := andNot128 b
     obtain ⟨x, hx⟩ : ∃ x, b.toNat % 128 = x := ⟨_, rfl⟩
     rw [hx] at hand
     have hx128 : x < 128 := by omega
     obtain ⟨M, hM⟩ : ∃ M, N + x * 128 ^ k = M := ⟨_, rfl⟩
     have hor := or_shift N x k hx128 HNN.out hk5
     rw [hM] at hor
     have HGO2 := Lib.hid (show numGo 0 0 r = numGo (k + 1) M (r.drop (k + 1)) by rw [HGO.out, if_neg hb, hx, hM])
     have HM2 := Lib.hid (show M < 128 ^ (k + 1) by
      have h1 := HNN.out
      have h2 : x * 128 ^ k ≤ 127 * 128 ^ k := Nat.mul_le_mul (by omega) (Nat.le_refl _)
      rw [Nat.pow_succ]
      omega)
     clear hb hx hM
     go_wp2_with (first | (with_reducible refine wpList_loadL HL.out rfl _ rfl rfl ?_))
     go_roundw
     case rel => exact ⟨k + 1, M, by omega, by omega, by go_num, rfl, rfl, HM2.out, HGO2.out, trivial⟩
     case measure => simp [intOf]; omega
  ·have HGO := Lib.hid (show numGo 0 0 r = (0, N) by rw [HGO.out, List.drop_eq_nil_of_le (by omega)]; rfl)
   have HNONE := Lib.hid (show getN most r = none by
    have hd := numGo_dec r 0 0 (by omega)
    have h0 : (dec 6 r).1 = 0 := by
     by_cases h0 : (dec 6 r).1 = 0
     ·exact h0
     ·rw [if_neg h0, HGO.out] at hd
      have h1 : (0 : Nat) = 0 + (dec 6 r).1 := congrArg Prod.fst hd
      omega
    unfold getN
    rw [if_pos (.inl h0)])
   skip
   go_wp2_with fail
   refine (fail_any base g v r e 4 _ HM.out).mono ?_
   rintro x w9 ⟨⟨rr, rfl⟩, hcu, hon⟩
   have HCU := Lib.hid hcu
   have HON := Lib.hid hon
   clear hcu hon
   go_wp2_with fail
   try rw [Exit.noGoto_ret]
   go_ret
   exact ⟨.inr ⟨HNONE.out, rfl, HCU.out⟩, HON.out⟩

end Go.Proofs.YtfiadgdinhmgbaaGreatDoor
/-! code.Over; code.Cursor: Raw, Text, End. -/
namespace Go.Proofs.YtfiadgdinhmgbaaGreatDoor
open Go.RowKit Pl Go.Agg
theorem runHigh (p : Option Addr) (n c k : Nat) (hk : k ≤ c) (W : World) : (Instr.sliceAt 23 (.slice p n c) none (some (.int .i64 (k : Int))) none).run Tryz.prog W = .ok (.slice p k c) W := by
 have hu : Tryz.prog.underlying 23 = some (.slice 5) := by kernel_rfl
 have hp : (p.map fun x => x.add 0) = p := by cases p <;> rfl
 simp [Instr.sliceAt, Instr.slice, Instr.sliceBounds, Instr.sliceBound, run_underlying hu, Sem.run_bind, asIntOf, hk, hp]
theorem rest_high {base : Nat} {w : World} {v : Value} {r : List UInt8} (h : Rest base w v r) (k : Nat) (hk : k ≤ r.length) :
  ∃ vx, (∀ W, (Instr.sliceAt 23 v none (some (.int .i64 (k : Int))) none).run Tryz.prog W = .ok vx W) ∧ BytesAt w vx (r.take k) := by
 have hs := h.slice
 have hc := h.cap
 obtain ⟨q, c, rfl⟩ := hs.form
 exact ⟨_, fun W => runHigh q r.length c k (by have := hc _ _ _ rfl; omega) W, sliceOf_taken hs k hk⟩
set_option maxRecDepth 100000 in
set_option maxHeartbeats 1000000 in
theorem over_any (x : Value) (l : List UInt8) (w : World) (hl : l.length ≤ 16777216) (hx : BytesAt w x l) :
  Calls Tryz.prog 29 #[x] w fun e w' => ∃ g v, e = .returned (.pointer (some ⟨g, 0, none⟩)) ∧ w.heap.size ≤ g ∧ CuV w.heap.size g w' v l 0 ∧ Below w.heap.size w w' := by
 have HX := Lib.hid hx
 clear hx
 go_enter Tryz.func29, Tryz.ntmps29
 go_wp2_with fail
 refine (bclone_any x l w (by omega) HX.out).mono ?_
 rintro e w1 ⟨v1, rfl, ho1, hx1⟩
 have HR1 := Lib.hid (Rest.of_own ho1)
 have HX1 := Lib.hid hx1
 obtain ⟨q, c, hf⟩ := ho1.slice.form
 have hb : ∀ W, (Instr.build 94 #[(0, v1)]).run Tryz.prog W = .ok (.agg (cuC v1 0)) W := fun W => by rw [hf]; kernel_rfl
 have HB := Lib.hid hb
 have hsz := hx1.size
 clear ho1 hx1 hf hb
 go_wp2_with (first | (with_reducible refine wpList_build1 94 0 _ rfl rfl v1 rfl (.agg (cuC v1 0)) HB.out ?_) | (with_reducible refine wpList_box rfl 94 _ rfl (cuC v1 0) rfl ?_; intro g w2 hb2 hx2 hg2; have HB2 := Lib.hid hb2; have HX2 := Lib.hid hx2; clear hb2 hx2))
 go_ret
 exact ⟨g, v1, rfl, Nat.le_trans hsz hg2, ⟨HB2.out, HR1.out.below HX2.out⟩, belowThen HX1.out (Nat.le_refl _) HX2.out⟩
def CBad (base g : Nat) (w' : World) : Prop := ∃ e, e ≠ 0 ∧ CuV base g w' (.slice none 0 0) [] e
def CRaw (base g many : Nat) (r : List UInt8) (e : Nat) (B : Nat) (x : Ending) (w' : World) : Prop :=
 (e = 0 ∧ many ≤ r.length ∧ ∃ u v', x = .returned u ∧ Own EB B w' u (r.take many) ∧ CuV base g w' v' (r.drop many) 0) ∨
 ((e ≠ 0 ∨ r.length < many) ∧ x = .returned (.slice none 0 0) ∧ CBad base g w')
set_option maxRecDepth 100000 in
set_option maxHeartbeats 2000000 in
theorem craw_any (base g many : Nat) (v : Value) (r : List UInt8) (e : Nat) (w : World) (hr : r.length ≤ 16777216) (hmo : many ≤ 1099511627776) (hm : CuV base g w v r e) :
  Calls Tryz.prog 88 #[.pointer (some ⟨g, 0, none⟩), .int .i64 (many : Int)] w fun x w' => CRaw base g many r e w.heap.size x w' ∧ Only (· = g) w w' := by
 have hlr := fun W => bytes_len hm.rest.slice W
 have HM := Lib.hid hm
 clear hm
 by_cases h0 : e = 0
 ·subst h0
  by_cases hle : many ≤ r.length
  ·have hI : ¬ (r.length : Int) < (many : Int) := by omega
   have hIN : ¬ r.length < many := by omega
   obtain ⟨vx, hsv, hbx⟩ := rest_high HM.out.rest many hle
   have HBX := Lib.hid hbx
   have HLE := Lib.hid hle
   clear hbx hle
   go_enter Tryz.func88, Tryz.ntmps88
   go_wp2_with (first | (with_reducible refine wpList_loadL HM.out.load rfl _ rfl rfl ?_) | (with_reducible refine wpList_loadL HM.out.err rfl _ rfl rfl ?_))
   refine (bclone_any vx (r.take many) w (by simp; omega) HBX.out).mono ?_
   rintro x w1 ⟨u1, rfl, ho1, hx1⟩
   have HM1 := Lib.hid (HM.out.below hx1)
   obtain ⟨vy, hsy, hry, hyc, hy1⟩ := rest_low HM1.out.rest many HLE.out
   obtain ⟨w2, hrun, hb2, ho2, hr2⟩ := HM1.out.put (ty := 23) 0 (by omega) vy hyc hy1 (by kernel_rfl)
   have HCU := Lib.hid (show CuV base g w2 vy (r.drop many) 0 from ⟨hb2, hr2 hry⟩)
   have HOW := Lib.hid (show Own EB w.heap.size w2 u1 (r.take many) from ho1.keepT fun k cur fr hk => (ho2.block k (Agg.heap_lt hk) (fun h => by
    obtain rfl : k = g := h
    have hb := HM1.out.blk
    unfold Blk at hb
    rw [hk] at hb
    injection hb with hb
    injection hb with _ hb
    exact absurd hb (by decide))).trans hk)
   have HON := Lib.hid ((Only.of_below (S := (· = g)) hx1).trans ho2 fun _ _ h => h)
   clear ho1 hx1 hry hyc hy1 hb2 ho2 hr2
   go_wp2_with (first | (with_reducible refine wpList_loadL HM1.out.load rfl _ rfl rfl ?_) | (refine wpList_store rfl rfl 23 _ _ rfl (.pointer (some ⟨g, 0, none⟩)) _ rfl rfl hrun ?_))
   go_ret
   exact ⟨.inl ⟨rfl, HLE.out, u1, vy, rfl, HOW.out, HCU.out⟩, HON.out⟩
  ·have hI : (r.length : Int) < (many : Int) := by omega
   have hIN : r.length < many := by omega
   clear hle
   go_enter Tryz.func88, Tryz.ntmps88
   go_wp2_with (first | (with_reducible refine wpList_loadL HM.out.load rfl _ rfl rfl ?_) | (with_reducible refine wpList_loadL HM.out.err rfl _ rfl rfl ?_))
   refine (fail_any base g v r 0 4 _ HM.out).mono ?_
   rintro x w9 ⟨⟨rr, rfl⟩, hcu, hon⟩
   have HCU := Lib.hid hcu
   have HON := Lib.hid hon
   clear hcu hon
   go_wp2_with fail
   go_ret
   exact ⟨.inr ⟨.inr hIN, rfl, 4, by omega, HCU.out⟩, HON.out⟩
 ·have hq : ((e : Int) != 0) = true := by simp [h0]
  have H0 := Lib.hid h0
  clear h0
  go_enter Tryz.func88, Tryz.ntmps88
  go_wp2_with (first | (with_reducible refine wpList_loadL HM.out.load rfl _ rfl rfl ?_) | (with_reducible refine wpList_loadL HM.out.err rfl _ rfl rfl ?_))
  refine (fail_any base g v r e 4 _ HM.out).mono ?_
  rintro x w9 ⟨⟨rr, rfl⟩, hcu, hon⟩
  rw [if_neg H0.out] at hcu
  have HCU := Lib.hid hcu
  have HON := Lib.hid hon
  clear hcu hon
  go_wp2_with fail
  go_ret
  exact ⟨.inr ⟨.inl H0.out, rfl, e, H0.out, HCU.out⟩, HON.out⟩
set_option maxRecDepth 100000 in
set_option maxHeartbeats 1000000 in
theorem cend_any (base g : Nat) (v : Value) (r : List UInt8) (e : Nat) (w : World) (hm : CuV base g w v r e) :
  Calls Tryz.prog 31 #[.pointer (some ⟨g, 0, none⟩)] w fun x w' => (∃ c : Nat, x = .returned (.int .i64 (c : Int)) ∧ (c = 0 ↔ e = 0 ∧ r = [])) ∧ w' = w := by
 have hlr := fun W => bytes_len hm.rest.slice W
 have HM := Lib.hid hm
 clear hm
 by_cases h0 : e = 0
 ·subst h0
  cases r with
  | nil =>
   go_enter Tryz.func31, Tryz.ntmps31
   go_wp2_with (first | (with_reducible refine wpList_loadL HM.out.load rfl _ rfl rfl ?_) | (with_reducible refine wpList_loadL HM.out.err rfl _ rfl rfl ?_))
   go_ret
   exact ⟨⟨0, rfl, by simp⟩, rfl⟩
  | cons b t =>
   have hI : (0 : Int) < ((b :: t).length : Int) := by simp
   obtain ⟨n, hn⟩ : ∃ n, (b :: t).length = n := ⟨_, rfl⟩
   rw [hn] at hI hlr
   clear hn
   go_enter Tryz.func31, Tryz.ntmps31
   go_wp2_with (first | (with_reducible refine wpList_loadL HM.out.load rfl _ rfl rfl ?_) | (with_reducible refine wpList_loadL HM.out.err rfl _ rfl rfl ?_))
   go_ret
   exact ⟨⟨4, rfl, by simp⟩, rfl⟩
 ·have hq : ((e : Int) == 0) = false := by simp [h0]
  have H0 := Lib.hid h0
  clear h0
  go_enter Tryz.func31, Tryz.ntmps31
  go_wp2_with (first | (with_reducible refine wpList_loadL HM.out.load rfl _ rfl rfl ?_) | (with_reducible refine wpList_loadL HM.out.err rfl _ rfl rfl ?_))
  go_ret
  exact ⟨⟨e, rfl, fun h => absurd h H0.out, fun h => absurd h.1 H0.out⟩, rfl⟩
def getT (most : Nat) (b : List UInt8) : Option (List UInt8 × List UInt8) :=
 match getN 1099511627776 b with
 | none => none
 | some (n, y) => if n ≤ most ∧ n ≤ y.length then some (y.take n, y.drop n) else none
def CText (base g most : Nat) (r : List UInt8) (e : Nat) (B : Nat) (x : Ending) (w' : World) : Prop :=
 (e = 0 ∧ ∃ l y u v', getT most r = some (l, y) ∧ x = .returned u ∧ Own EB B w' u l ∧ CuV base g w' v' y 0) ∨
 ((e ≠ 0 ∨ getT most r = none) ∧ x = .returned (.slice none 0 0) ∧ CBad base g w')
theorem getN_le {most n : Nat} {b y : List UInt8} (h : getN most b = some (n, y)) : y.length ≤ b.length := by
 obtain ⟨rfl, _⟩ := getN_some h
 simp
set_option maxRecDepth 100000 in
set_option maxHeartbeats 2000000 in
theorem ctext_any (base g most : Nat) (v : Value) (r : List UInt8) (e : Nat) (w : World) (hr : r.length ≤ 16777216) (he : e ≠ 0 → r = []) (hm : CuV base g w v r e) :
  Calls Tryz.prog 47 #[.pointer (some ⟨g, 0, none⟩), .int .i64 (most : Int)] w fun x w' => CText base g most r e w.heap.size x w' ∧ Only (· = g) w w' := by
 have HM := Lib.hid hm
 clear hm
 go_enter Tryz.func47, Tryz.ntmps47
 go_wp2_with fail
 refine (cnum_any base g 1099511627776 v r e w hr (by omega) HM.out).mono ?_
 rintro x w1 ⟨⟨n, y, v1, hg, rfl, hcu⟩ | ⟨hg, rfl, hcu⟩, hon⟩
 ·have he0 : e = 0 := Decidable.byContradiction fun h => by
   have h1 := he h
   subst h1
   have : getN 1099511627776 ([] : List UInt8) = none := by decide
   rw [this] at hg
   cases hg
  subst he0
  have HG := Lib.hid hg
  have HM1 := Lib.hid hcu
  have HON1 := Lib.hid hon
  have hyl := getN_le hg
  have hn40 := (getN_some hg).2.2
  clear hg hcu hon
  by_cases hnm : n ≤ most
  ·have hI : ¬ (most : Int) < (n : Int) := by omega
   have HNM := Lib.hid hnm
   clear hnm
   go_wp2_with (first | (with_reducible refine wpList_loadL HM1.out.err rfl _ rfl rfl ?_))
   refine (craw_any base g n v1 y 0 w1 (by omega) hn40 HM1.out).mono ?_
   rintro x w2 ⟨⟨_, hny, u, v2, rfl, hou, hcu⟩ | ⟨hor, rfl, hbad⟩, hon⟩
   ·have HT := Lib.hid (show getT most r = some (y.take n, y.drop n) by unfold getT; rw [HG.out]; exact if_pos ⟨HNM.out, hny⟩)
    have HOU := Lib.hid (hou.lower HON1.out.size)
    have HCU := Lib.hid hcu
    have HON := Lib.hid (HON1.out.trans hon fun _ _ h => h)
    clear hou hcu hon hny
    go_wp2_with fail
    go_ret
    exact ⟨.inl ⟨rfl, _, _, u, v2, HT.out, rfl, HOU.out, HCU.out⟩, HON.out⟩
   ·have HT := Lib.hid (show getT most r = none by
     unfold getT
     rw [HG.out]
     exact if_neg fun h => by
      rcases hor with h0 | h0
      ·exact h0 rfl
      ·omega)
    have HBAD := Lib.hid hbad
    have HON := Lib.hid (HON1.out.trans hon fun _ _ h => h)
    clear hor hbad hon
    go_wp2_with fail
    go_ret
    exact ⟨.inr ⟨.inr HT.out, rfl, HBAD.out⟩, HON.out⟩
  ·have hI : (most : Int) < (n : Int) := by omega
   have HT := Lib.hid (show getT most r = none by unfold getT; rw [HG.out]; exact if_neg fun h => hnm h.1)
   clear hnm
   go_wp2_with (first | (with_reducible refine wpList_loadL HM1.out.err rfl _ rfl rfl ?_))
   refine (fail_any base g v1 y 0 3 _ HM1.out).mono ?_
   rintro x w2 ⟨⟨rr, rfl⟩, hcu, hon⟩
   have HCU := Lib.hid hcu
   have HON := Lib.hid (HON1.out.trans hon fun _ _ h => h)
   clear hcu hon
   go_wp2_with fail
   go_ret
   exact ⟨.inr ⟨.inr HT.out, rfl, 3, by omega, HCU.out⟩, HON.out⟩
 ·have hne : (if e = 0 then 4 else e) ≠ 0 := by split <;> omega
  obtain ⟨e2, he2⟩ : ∃ e2, (if e = 0 then 4 else e) = e2 := ⟨_, rfl⟩
  rw [he2] at hcu hne
  have hq : ((e2 : Int) != 0) = true := by simp [hne]
  have HNE := Lib.hid hne
  have HM1 := Lib.hid hcu
  have HON1 := Lib.hid hon
  have HT := Lib.hid (show getT most r = none by unfold getT; rw [hg])
  clear hg hcu hon he2 hne
  go_wp2_with (first | (with_reducible refine wpList_loadL HM1.out.err rfl _ rfl rfl ?_))
  go_ret
  exact ⟨.inr ⟨.inr HT.out, rfl, e2, HNE.out, HM1.out⟩, HON1.out⟩
end Go.Proofs.YtfiadgdinhmgbaaGreatDoor
/-! A cursor as a state: the plain law of numbers, texts, hashes. -/
namespace Go.Proofs.YtfiadgdinhmgbaaGreatDoor
open Go.RowKit Pl Go.Agg
/-! A cursor as a state: the bytes that are left; none, once something was wrong. -/
def sNum (most : Nat) : Option (List UInt8) → Nat × Option (List UInt8)
 | none => (0, none)
 | some r => match getN most r with
  | none => (0, none)
  | some p => (p.1, some p.2)
def sText (most : Nat) : Option (List UInt8) → List UInt8 × Option (List UInt8)
 | none => ([], none)
 | some r => match getT most r with
  | none => ([], none)
  | some p => (p.1, some p.2)
def sRaw (many : Nat) : Option (List UInt8) → List UInt8 × Option (List UInt8)
 | none => ([], none)
 | some r => if many ≤ r.length then (r.take many, some (r.drop many)) else ([], none)
def sHash (s : Option (List UInt8)) : List UInt8 × Option (List UInt8) := ((sRaw 20 s).1 ++ z20.drop (sRaw 20 s).1.length, (sRaw 20 s).2)
def encT (l : List UInt8) : List UInt8 := encN l.length ++ l
theorem sNum_enc {most n : Nat} (h : n ≤ 1099511627776) (hm : n ≤ most) (y : List UInt8) : sNum most (some (encN n ++ y)) = (n, some y) := by simp only [sNum, getN_enc h hm]
theorem sNum_some {most n : Nat} {s : Option (List UInt8)} {y : List UInt8} (h : sNum most s = (n, some y)) : s = some (encN n ++ y) ∧ n ≤ most ∧ n ≤ 1099511627776 := by
 cases s with
 | none => simp [sNum] at h
 | some r =>
  simp only [sNum] at h
  cases hg : getN most r with
  | none => rw [hg] at h; simp at h
  | some p =>
   rw [hg] at h
   obtain ⟨n', y'⟩ := p
   simp only [Prod.mk.injEq, Option.some.injEq] at h
   obtain ⟨rfl, rfl⟩ := h
   obtain ⟨h1, h2, h3⟩ := getN_some hg
   exact ⟨by rw [← h1], h2, h3⟩
theorem getT_enc {most : Nat} {l : List UInt8} (h : l.length ≤ most) (h4 : l.length ≤ 1099511627776) (y : List UInt8) : getT most (encT l ++ y) = some (l, y) := by
 unfold getT encT
 rw [List.append_assoc, getN_enc h4 h4]
 simp [h]
theorem getT_some {most : Nat} {l r y : List UInt8} (h : getT most r = some (l, y)) : r = encT l ++ y ∧ l.length ≤ most := by
 unfold getT at h
 split at h
 ·cases h
 ·rename_i n z hg
  split at h
  ·rename_i hc
   obtain ⟨h1, _, _⟩ := getN_some hg
   simp only [Option.some.injEq, Prod.mk.injEq] at h
   obtain ⟨rfl, rfl⟩ := h
   have hl : (z.take n).length = n := by simp; omega
   unfold encT
   rw [hl, List.append_assoc, List.take_append_drop]
   exact ⟨h1, by omega⟩
  ·cases h
theorem sText_enc {most : Nat} {l : List UInt8} (h : l.length ≤ most) (h4 : l.length ≤ 1099511627776) (y : List UInt8) : sText most (some (encT l ++ y)) = (l, some y) := by simp only [sText, getT_enc h h4]
theorem sText_some {most : Nat} {s : Option (List UInt8)} {l y : List UInt8} (h : sText most s = (l, some y)) : s = some (encT l ++ y) ∧ l.length ≤ most := by
 cases s with
 | none => simp [sText] at h
 | some r =>
  simp only [sText] at h
  cases hg : getT most r with
  | none => rw [hg] at h; simp at h
  | some p =>
   rw [hg] at h
   obtain ⟨n', y'⟩ := p
   simp only [Prod.mk.injEq, Option.some.injEq] at h
   obtain ⟨rfl, rfl⟩ := h
   obtain ⟨h1, h2⟩ := getT_some hg
   exact ⟨by rw [← h1], h2⟩
theorem sHash_enc {h : List UInt8} (hl : h.length = 20) (y : List UInt8) : sHash (some (h ++ y)) = (h, some y) := by
 have : sRaw 20 (some (h ++ y)) = (h, some y) := by
  simp only [sRaw, List.length_append, hl]
  rw [if_pos (by omega), ← hl, List.take_left, List.drop_left]
 unfold sHash
 rw [this]
 simp [hl, z20]
theorem sHash_some {s : Option (List UInt8)} {h y : List UInt8} (e : sHash s = (h, some y)) : s = some (h ++ y) ∧ h.length = 20 := by
 unfold sHash at e
 cases s with
 | none => simp [sRaw] at e
 | some r =>
  simp only [sRaw] at e
  by_cases hl : 20 ≤ r.length
  ·rw [if_pos hl] at e
   simp only [Prod.mk.injEq, Option.some.injEq] at e
   obtain ⟨rfl, rfl⟩ := e
   have : (r.take 20).length = 20 := by simp; omega
   rw [this]
   simp [z20]
   omega
  ·rw [if_neg hl] at e
   simp at e
theorem sHash_length (s : Option (List UInt8)) : (sHash s).1.length = 20 := by
 unfold sHash
 cases s with
 | none => simp [sRaw, z20]
 | some r =>
  simp only [sRaw]
  by_cases hl : 20 ≤ r.length
  ·rw [if_pos hl]
   simp [z20]; omega
  ·rw [if_neg hl]
   simp [z20]
def stLen : Option (List UInt8) → Nat
 | none => 0
 | some r => r.length
theorem sNum_len (most : Nat) (s : Option (List UInt8)) : stLen (sNum most s).2 ≤ stLen s := by
 cases h : (sNum most s).2 with
 | none => simp [stLen]
 | some y =>
  obtain ⟨h1, _⟩ := sNum_some (Prod.ext (rfl : (sNum most s).1 = (sNum most s).1) h)
  rw [h1]
  simp only [stLen, List.length_append]
  omega
theorem sNum_le (most : Nat) (s : Option (List UInt8)) : (sNum most s).1 ≤ most := by
 cases h : (sNum most s).2 with
 | none =>
  cases s with
  | none => simp [sNum]
  | some r =>
   simp only [sNum] at h ⊢
   cases hg : getN most r with
   | none => simp
   | some p => rw [hg] at h; simp at h
 | some y => exact (sNum_some (Prod.ext (rfl : (sNum most s).1 = (sNum most s).1) h)).2.1
theorem sText_len (most : Nat) (s : Option (List UInt8)) : stLen (sText most s).2 ≤ stLen s := by
 cases h : (sText most s).2 with
 | none => simp [stLen]
 | some y =>
  obtain ⟨h1, _⟩ := sText_some (Prod.ext (rfl : (sText most s).1 = (sText most s).1) h)
  rw [h1]
  simp only [stLen, List.length_append]
  omega
theorem sText_le (most : Nat) (s : Option (List UInt8)) : (sText most s).1.length ≤ most := by
 cases h : (sText most s).2 with
 | none =>
  cases s with
  | none => simp [sText]
  | some r =>
   simp only [sText] at h ⊢
   cases hg : getT most r with
   | none => simp
   | some p => rw [hg] at h; simp at h
 | some y => exact (sText_some (Prod.ext (rfl : (sText most s).1 = (sText most s).1) h)).2
theorem sRaw_len (many : Nat) (s : Option (List UInt8)) : stLen (sRaw many s).2 ≤ stLen s := by
 cases s with
 | none => simp [sRaw]
 | some r =>
  simp only [sRaw]
  split <;> simp [stLen]
end Go.Proofs.YtfiadgdinhmgbaaGreatDoor
/-! A tree's archive (chapter 9), as a function; what archives are read to. No program in sight. -/
namespace Go.Tr
open Go.Proofs.YtfiadgdinhmgbaaGreatDoor Go.Agg
mutual
def packB : T → List UInt8
 | .mk k b l => if k = 4 then encN 4 ++ (encN l.length ++ packL l) else encN k.toNat ++ encT b
def packL : List K → List UInt8
 | [] => []
 | (n, t) :: l => encT n ++ (packB t ++ packL l)
end
abbrev S := Option (List UInt8)
def opnL (g : Nat → S → Option (T × Nat × S)) : Nat → List UInt8 → Nat → S → Option (List K × Nat × S)
 | 0, _, left, s => some ([], left, s)
 | c + 1, last, left, s => if Op.bytesLess last (sText 24 s).1 then
   match g left (sText 24 s).2 with
   | none => none
   | some (t, left', s2) => match opnL g c (sText 24 s).1 left' s2 with
    | none => none
    | some (l, left'', s3) => some (((sText 24 s).1, t) :: l, left'', s3)
  else none
def opn : Nat → Nat → Nat → S → Option (T × Nat × S)
 | 0, _, _, _ => none
 | f + 1, d, left, s => if left = 0 ∨ 8 < d then none else
   if (sNum 4 s).1 = 4 then
    match opnL (opn f (d + 1)) (sNum 200 (sNum 4 s).2).1 [] (left - 1) (sNum 200 (sNum 4 s).2).2 with
    | none => none
    | some (l, left', s') => some (.mk 4 [] l, left', s')
   else some (.mk ((sNum 4 s).1 : Int) (sText 2048 (sNum 4 s).2).1 [], left - 1, (sText 2048 (sNum 4 s).2).2)
theorem name_le {n : List UInt8} (h : Pl.isName n = true) : n.length ≤ 24 := by
 simp only [Pl.isName, Bool.and_eq_true, decide_eq_true_eq] at h
 exact h.1.2
theorem less_ne {n : List UInt8} (h : n ≠ []) : Op.bytesLess [] n = true := by
 cases n with
 | nil => exact absurd rfl h
 | cons c n => rfl
theorem alone_cases {k : Int} {b : List UInt8} {l : List K} (h : alone (.mk k b l) = true) : (k = 4 ∧ b = [] ∧ l.length ≤ 200 ∧ named none l = true) ∨ (k ≠ 4 ∧ 1 ≤ k ∧ k ≤ 3 ∧ b.length ≤ 2048 ∧ l = []) := by
 simp only [alone, Bool.or_eq_true, Bool.and_eq_true, decide_eq_true_eq, List.isEmpty_iff] at h
 rcases h with (⟨⟨h1 | h1, h2⟩, h3⟩ | ⟨⟨⟨h1, h2⟩, h4⟩, h3⟩) | ⟨⟨⟨h1, h2⟩, h3⟩, h4⟩
 ·exact .inr ⟨by omega, by omega, by omega, h2, h3⟩
 ·exact .inr ⟨by omega, by omega, by omega, h2, h3⟩
 ·exact .inr ⟨by omega, by omega, by omega, by omega, h3⟩
 ·exact .inl ⟨h1, h2, h3, h4⟩
theorem opnL_put {g : Nat → S → Option (T × Nat × S)} : ∀ (l : List K) (b : Option (List UInt8)) (left : Nat) (y : List UInt8), named b l = true → countL l ≤ left →
  (∀ x ∈ l, ∀ left y, count x.2 ≤ left → g left (some (packB x.2 ++ y)) = some (x.2, left - count x.2, some y)) →
  opnL g l.length (b.getD []) left (some (packL l ++ y)) = some (l, left - countL l, some y)
 | [], b, left, y, _, _, _ => by simp [opnL, packL, countL]
 | (n, t) :: l, b, left, y, hn, hc, hg => by
  simp only [named, Bool.and_eq_true] at hn
  obtain ⟨⟨h1, h2⟩, h3⟩ := hn
  have hl := name_le h1
  have ht : sText 24 (some (packL ((n, t) :: l) ++ y)) = (n, some (packB t ++ (packL l ++ y))) := by
   rw [packL, List.append_assoc, List.append_assoc]
   exact sText_enc hl (by omega) _
  have hless : Op.bytesLess (b.getD []) n = true := by
   cases b with
   | none => exact less_ne (name_ne h1)
   | some b => exact h2
  simp only [countL] at hc ⊢
  have hg1 := hg (n, t) (by simp) left (packL l ++ y) (by show count t ≤ left; omega)
  have ih := opnL_put l (some n) (left - count t) y h3 (by omega) (fun x hx => hg x (by simp [hx]))
  simp only [List.length_cons, opnL, ht, hless, if_true, hg1]
  rw [show (some n : Option (List UInt8)).getD [] = n from rfl] at ih
  rw [ih]
  simp only [Nat.sub_sub]
theorem opn_put : ∀ (f : Nat) (t : T) (d left : Nat) (y : List UInt8), ok t = true → count t ≤ left → d + deep t ≤ 9 → deep t ≤ f → opn f d left (some (packB t ++ y)) = some (t, left - count t, some y)
 | 0, t, d, left, y, _, _, _, h => by have := deep_pos t; omega
 | f + 1, .mk k b l, d, left, y, hok, hc, hd, hf => by
  have hp := count_pos (.mk k b l)
  have hdp := deep_pos (.mk k b l)
  have ha : alone (.mk k b l) = true := by simp only [ok, Bool.and_eq_true] at hok; exact hok.1
  have hk := kids_ok hok
  rw [show (T.mk k b l).kids = l from rfl] at hk
  unfold opn
  rw [if_neg (by omega)]
  rcases alone_cases ha with ⟨rfl, rfl, h200, hnm⟩ | ⟨h4, h1, h3, h2048, rfl⟩
  ·have e1 : sNum 4 (some (packB (.mk 4 [] l) ++ y)) = (4, some (encN l.length ++ (packL l ++ y))) := by
    simp only [packB, if_true, List.append_assoc]
    exact sNum_enc (by omega) (by omega) _
   have e2 : sNum 200 (some (encN l.length ++ (packL l ++ y))) = (l.length, some (packL l ++ y)) := sNum_enc (by omega) h200 _
   simp only [e1, e2, if_true]
   simp only [count, deep] at hc hd hf ⊢
   have := opnL_put (g := opn f (d + 1)) l none (left - 1) y hnm (by omega) (fun x hx left y hcx => opn_put f x.2 (d + 1) left y (okL_mem hk hx) hcx (by have := deepL_mem hx; omega) (by have := deepL_mem hx; omega))
   rw [show (none : Option (List UInt8)).getD [] = [] from rfl] at this
   rw [this]
   simp only [Option.some.injEq, Prod.mk.injEq, true_and, and_true]
   omega
  ·have e1 : sNum 4 (some (packB (.mk k b []) ++ y)) = (k.toNat, some (encT b ++ y)) := by
    simp only [packB, if_neg h4, List.append_assoc]
    exact sNum_enc (by omega) (by omega) _
   have e2 : sText 2048 (some (encT b ++ y)) = (b, some y) := sText_enc h2048 (by omega) _
   have hk4 : ¬ k.toNat = 4 := by omega
   simp only [e1, e2, if_neg hk4]
   simp only [count, countL, Option.some.injEq, Prod.mk.injEq, T.mk.injEq, and_true]
   omega
theorem opnL_some {g : Nat → S → Option (T × Nat × S)} (hg : ∀ left s t left' y, g left s = some (t, left', some y) → s = some (packB t ++ y)) (hn : ∀ left, ∀ r, g left none = some r → r.2.2 = none) : ∀ (c : Nat) (last : List UInt8) (left : Nat) (s : S) (l : List K) (left' : Nat) (y : List UInt8), opnL g c last left s = some (l, left', some y) → s = some (packL l ++ y) ∧ l.length = c
 | 0, last, left, s, l, left', y, h => by
  simp only [opnL, Option.some.injEq, Prod.mk.injEq] at h
  obtain ⟨rfl, _, rfl⟩ := h
  exact ⟨rfl, rfl⟩
 | c + 1, last, left, s, l, left', y, h => by
  simp only [opnL] at h
  split at h
  ·split at h
   ·cases h
   ·rename_i t left2 s2 hgt
    split at h
    ·cases h
    ·rename_i l2 left3 s3 hl2
     simp only [Option.some.injEq, Prod.mk.injEq] at h
     obtain ⟨rfl, _, rfl⟩ := h
     obtain ⟨h1, h2⟩ := opnL_some hg hn c _ _ _ _ _ _ hl2
     subst h1
     have h3 := hg _ _ _ _ _ hgt
     have h4 := sText_some (most := 24) (s := s) (l := (sText 24 s).1) (y := packB t ++ (packL l2 ++ y)) (by rw [← h3])
     refine ⟨h4.1.trans ?_, by simp [h2]⟩
     rw [packL, List.append_assoc, List.append_assoc]
  ·cases h
theorem opnL_none {g : Nat → S → Option (T × Nat × S)} (hn : ∀ left, ∀ r, g left none = some r → r.2.2 = none) : ∀ (c : Nat) (last : List UInt8) (left : Nat) (r : List K × Nat × S), opnL g c last left none = some r → r.2.2 = none
 | 0, last, left, r, h => by
  simp only [opnL, Option.some.injEq] at h
  rw [← h]
 | c + 1, last, left, r, h => by
  simp only [opnL] at h
  split at h
  ·split at h
   ·cases h
   ·rename_i t left2 s2 hgt
    have h2 : s2 = none := hn left _ hgt
    subst h2
    split at h
    ·cases h
    ·rename_i l2 left3 s3 hl2
     have h3 : s3 = none := opnL_none hn c _ _ _ hl2
     subst h3
     rw [← Option.some.inj h]
  ·cases h
theorem opn_none : ∀ (f d left : Nat) (r : T × Nat × S), opn f d left none = some r → r.2.2 = none
 | 0, d, left, r, h => by simp [opn] at h
 | f + 1, d, left, r, h => by
  have e1 : sNum 4 none = (0, none) := rfl
  have e2 : (sText 2048 none).2 = none := rfl
  simp only [opn, e1, e2] at h
  split at h
  ·cases h
  ·simp only [show ¬ (0 : Nat) = 4 by omega, if_false] at h
   rw [← Option.some.inj h]
theorem opn_some : ∀ (f d left : Nat) (s : S) (t : T) (left' : Nat) (y : List UInt8), opn f d left s = some (t, left', some y) → s = some (packB t ++ y)
 | 0, d, left, s, t, left', y, h => by simp [opn] at h
 | f + 1, d, left, s, t, left', y, h => by
  simp only [opn] at h
  split at h
  ·cases h
  ·obtain ⟨k, s1, hk⟩ : ∃ k s1, sNum 4 s = (k, s1) := ⟨_, _, rfl⟩
   rw [hk] at h
   split at h
   ·rename_i h4
    have h4 : k = 4 := h4
    subst h4
    obtain ⟨c, s2, hc⟩ : ∃ c s2, sNum 200 s1 = (c, s2) := ⟨_, _, rfl⟩
    simp only [hc] at h
    split at h
    ·cases h
    ·rename_i l left2 s3 hl
     simp only [Option.some.injEq, Prod.mk.injEq] at h
     obtain ⟨rfl, _, rfl⟩ := h
     obtain ⟨h1, h2⟩ := opnL_some (fun left s t left' y => opn_some f (d + 1) left s t left' y) (fun left r => opn_none f (d + 1) left r) c _ _ _ _ _ _ hl
     subst h1
     obtain ⟨h3, _, _⟩ := sNum_some hc
     subst h3
     obtain ⟨h5, _, _⟩ := sNum_some hk
     rw [h5]
     simp only [packB, if_true, List.append_assoc, h2]
   ·rename_i h4
    simp only [Option.some.injEq, Prod.mk.injEq] at h
    obtain ⟨rfl, _, h6⟩ := h
    obtain ⟨b, s2, hb⟩ : ∃ b s2, sText 2048 s1 = (b, s2) := ⟨_, _, rfl⟩
    simp only [hb] at h6 ⊢
    subst h6
    obtain ⟨h3, _⟩ := sText_some hb
    subst h3
    obtain ⟨h5, _, _⟩ := sNum_some hk
    have h4 : ¬ k = 4 := h4
    have hk4 : ¬ (k : Int) = 4 := by omega
    rw [h5]
    simp only [packB, if_neg hk4, List.append_assoc, Int.toNat_natCast]
def openT (b : List UInt8) : Option T := match opn 9 1 200 (some b) with
 | some (t, _, some []) => if right t then some t else none
 | _ => none
theorem openT_iff (b : List UInt8) (t : T) : openT b = some t ↔ right t = true ∧ packB t = b := by
 constructor
 ·intro h
  unfold openT at h
  split at h
  ·rename_i t' left' ho
   split at h
   ·rename_i hr
    obtain rfl := Option.some.inj h
    have := opn_some _ _ _ _ _ _ _ ho
    simp only [List.append_nil, Option.some.injEq] at this
    exact ⟨hr, this.symm⟩
   ·cases h
  ·cases h
 ·rintro ⟨hr, rfl⟩
  have hr' := hr
  simp only [right, lookB, Bool.and_eq_true, decide_eq_true_eq] at hr'
  have := opn_put 9 t 1 200 [] hr'.1.1 (by omega) (by omega) (by omega)
  rw [List.append_nil] at this
  unfold openT
  rw [this]
  simp only [if_pos hr]
theorem packB_inj {t u : T} (ht : right t = true) (hu : right u = true) (h : packB t = packB u) : t = u := by
 have h1 := (openT_iff (packB t) t).2 ⟨ht, rfl⟩
 have h2 := (openT_iff (packB t) u).2 ⟨hu, h.symm⟩
 rw [h1] at h2
 exact Option.some.inj h2
end Go.Tr
/-! What is read off an archive: nothing grows. No program in sight. -/
namespace Go.Tr
open Go.Proofs.YtfiadgdinhmgbaaGreatDoor Go.Agg
theorem opnL_le {g : Nat → S → Option (T × Nat × S)} (hg : ∀ left s r, g left s = some r → r.2.1 ≤ left ∧ stLen r.2.2 ≤ stLen s) : ∀ (c : Nat) (last : List UInt8) (left : Nat) (s : S) (r : List K × Nat × S), opnL g c last left s = some r → r.2.1 ≤ left ∧ stLen r.2.2 ≤ stLen s
 | 0, last, left, s, r, h => by
  simp only [opnL, Option.some.injEq] at h
  subst h
  exact ⟨Nat.le_refl _, Nat.le_refl _⟩
 | c + 1, last, left, s, r, h => by
  simp only [opnL] at h
  split at h
  ·split at h
   ·cases h
   ·next t left2 s2 hgt =>
    split at h
    ·cases h
    ·next l2 left3 s3 hl2 =>
     have h1 := hg _ _ _ hgt
     have h2 := opnL_le hg c _ _ _ _ hl2
     have h3 := sText_len 24 s
     rw [← Option.some.inj h]
     exact ⟨Nat.le_trans h2.1 h1.1, Nat.le_trans h2.2 (Nat.le_trans h1.2 h3)⟩
  ·cases h
theorem opn_le : ∀ (f d left : Nat) (s : S) (r : T × Nat × S), opn f d left s = some r → r.2.1 ≤ left ∧ stLen r.2.2 ≤ stLen s
 | 0, d, left, s, r, h => by simp [opn] at h
 | f + 1, d, left, s, r, h => by
  simp only [opn] at h
  split at h
  ·cases h
  ·have h1 := sNum_len 4 s
   split at h
   ·split at h
    ·cases h
    ·next l left2 s2 hl =>
     have h2 := opnL_le (fun left s r h => opn_le f (d + 1) left s r h) _ _ _ _ _ hl
     have h3 := sNum_len 200 (sNum 4 s).2
     rw [← Option.some.inj h]
     exact ⟨by have := h2.1; show left2 ≤ left; simp only at this; omega, Nat.le_trans h2.2 (Nat.le_trans h3 h1)⟩
   ·have h3 := sText_len 2048 (sNum 4 s).2
    rw [← Option.some.inj h]
    exact ⟨Nat.sub_le _ _, Nat.le_trans h3 h1⟩
def andL (m : List K) : Option (List K × Nat × S) → Option (List K × Nat × S)
 | none => none
 | some (l, left, s) => some (m ++ l, left, s)
theorem andL_nil (r : Option (List K × Nat × S)) : andL [] r = r := by
 cases r with
 | none => rfl
 | some r => rfl
theorem opnL_bad {g : Nat → S → Option (T × Nat × S)} {c : Nat} {last n : List UInt8} {left : Nat} {s s1 : S} (h : sText 24 s = (n, s1)) (hb : Op.bytesLess last n = false) : opnL g (c + 1) last left s = none := by
 simp [opnL, h, hb]
theorem opnL_none' {g : Nat → S → Option (T × Nat × S)} {c : Nat} {last n : List UInt8} {left : Nat} {s s1 : S} (h : sText 24 s = (n, s1)) (hg : g left s1 = none) : opnL g (c + 1) last left s = none := by
 simp only [opnL, h, hg]
 split <;> rfl
theorem opnL_kid {g : Nat → S → Option (T × Nat × S)} {c : Nat} {last n : List UInt8} {left left1 : Nat} {s s1 s2 : S} {t : T} (h : sText 24 s = (n, s1)) (hb : Op.bytesLess last n = true) (hg : g left s1 = some (t, left1, s2)) (m : List K) :
  andL m (opnL g (c + 1) last left s) = andL (m ++ [(n, t)]) (opnL g c n left1 s2) := by
 simp only [opnL, h, hb, if_true, hg]
 cases opnL g c n left1 s2 with
 | none => rfl
 | some r => obtain ⟨l, l2, s3⟩ := r; simp [andL]
end Go.Tr
