/- hash.spread: a block's sixteen words, and those made of them. (Several texts in one.) -/
import Derived.Test.YtgekpghjlhcpkaaCAD
import Derived.Test.YtgekpghjlhcpkaaCAH
import Derived.Test.YtgekpghjlhcpkaaCAE
import Derived.Shelf.Abstract
/-! copy of bytes into the middle of a block; of one-cell rows in general. -/
namespace Go.Agg
open Go.RowKit
theorem toArray_size' (l : List Value) : l.toArray.size = l.length := by simp
/-- copy of cells into the middle of a block -/
theorem run_copyMid {P : Program} {w : World} (dT sT ty elem : TypeId) (g o n dc : Nat) (a : Addr) (m sc : Nat) (cur : List Value) (t : TypeId) (cs : List Value)
    (hu : P.underlying dT = some (.slice elem)) (hs : (P.info? elem).map (·.size) = some 1) (hb : Blk w g t cur.toArray) (hn : cs.length = Nat.min m n) (hsrc : ∀ j v, cs[j]? = some v → w.cell? (a.add j) = some v)
    (hfit : o + cs.length ≤ cur.length) (h1 : ∀ v ∈ cs, v.oneCell' = true) :
    ∃ w', (Builtin.copy_ #[dT, sT] ty #[.slice (some ⟨g, o, none⟩) n dc, .slice (some a) m sc]).run P w = .ok (goInt cs.length) w' ∧ Blk w' g t (cur.take o ++ cs ++ cur.drop (o + cs.length)).toArray ∧ Only (· = g) w w' ∧ w'.heap.size = w.heap.size := by
  have hrun := run_copy_row (P := P) w dT sT ty elem g o n dc a m sc cur.toArray t cs hu hs hb hn hsrc (by simpa using hfit) h1
  refine ⟨_, hrun, ?_, ⟨rfl, rfl, rfl, by simp [World.setRow], fun k _ hk => setRow_other w g k _ hk⟩, by simp [World.setRow]⟩
  exact setRow_heap w g cur.toArray _ t (0, 0) hb
end Go.Agg
namespace Go.Proofs.Ytgekpghjlhcpkaa
open Go.RowKit Pl Go.Agg
theorem run_copyAt {w : World} {g o n dc : Nat} {t : TypeId} {cur : List Value} {u : Value} {l : List UInt8} (ty : TypeId) (hu : SliceOf EB w u l) (hb : Blk w g t cur.toArray) (ho : o + n ≤ cur.length) :
    ∃ w', (Builtin.copy_ #[23, 23] ty #[.slice (some ⟨g, o, none⟩) n dc, u]).run Try.prog w = .ok (.int .i64 ((min l.length n : Nat) : Int)) w' ∧ Blk w' g t (cur.take o ++ Lib.byteCells (l.take n) ++ cur.drop (o + min l.length n)).toArray ∧ Only (· = g) w w' ∧ w'.heap.size = w.heap.size := by
  have hund : Try.prog.underlying 23 = some (.slice 5) := by kernel_rfl
  have hsz : (Try.prog.info? 5).map (·.size) = some 1 := by kernel_rfl
  have hc : (Lib.byteCells (l.take n)).length = min l.length n := by simp [Lib.byteCells, Nat.min_comm]
  by_cases h0 : l.length = 0
  · obtain rfl : l = [] := List.length_eq_zero_iff.1 h0
    obtain ⟨p, c, hf⟩ := hu.form
    subst hf
    refine ⟨w, ?_, ?_, Only.refl _ _, rfl⟩
    · have := run_copy_none (P := Try.prog) w 23 23 ty 5 (some ⟨g, o, none⟩) p n dc 0 c hund hsz (by simp)
      simpa [goInt] using this
    · simpa [Lib.byteCells] using hb
  · rcases hu with ⟨_, _, _, h1⟩ | ⟨q, c, rfl, hq, hcell⟩
    · exact absurd (by simp [h1]) h0
    · rw [flat_bytes] at hcell
      obtain ⟨w', h1, h2, h3, h4⟩ := run_copyMid (P := Try.prog) 23 23 ty 5 g o n dc q l.length c cur t (Lib.byteCells (l.take n)) hund hsz hb (by rw [hc])
        (fun j v hj => hcell j v (by
          simp only [Lib.byteCells, List.getElem?_map, List.getElem?_take] at hj ⊢
          split at hj
          · exact hj
          · simp at hj)) (by rw [hc]; omega)
        (fun v hv => by
          simp only [Lib.byteCells, List.mem_map] at hv
          obtain ⟨b, _, rfl⟩ := hv
          rfl)
      rw [hc] at h1 h2
      exact ⟨w', h1, h2, h3, h4⟩
end Go.Proofs.Ytgekpghjlhcpkaa
/-! hash.mixed, rounds, first; bits.RotateLeft32. -/
namespace Go.Proofs.Ytgekpghjlhcpkaa
open Go.RowKit Pl Go.Agg Go.Sha
section
variable {o : Oper} {a : Act} {w : World} {x y : Operand}
theorem exec_cvU (k : Nat) (h1 : 1 ≤ k) (h2 : k ≤ 31) (ho : o.op = .convert 3 119 x) (hx : a.eval x = .int .i64 (-(k : Int))) : (execOp a.eval o).run Try.prog w = .ok (.value (.int .u64 (18446744073709551616 - (k : Int)))) w := by
  have hc : (convert 3 119 (.int .i64 (-(k : Int)))).run Try.prog w = .ok (.int .u64 (18446744073709551616 - (k : Int))) w := by
    simp [convert]
    simp [Conv.intToInt, IntKind.wrap, IntKind.signed, IntKind.bits]
    omega
  simp [execOp, ho, hx, hc]
theorem andU31 : ∀ k : Fin 32, 1 ≤ k.1 → IntKind.u64.wrap (((BitVec.ofInt 64 (18446744073709551616 - (k.1 : Int)) &&& BitVec.ofInt 64 31).toNat : Nat) : Int) = ((32 - k.1 : Nat) : Int) := by decide
theorem exec_andU {t u : TypeId} (k : Nat) (h1 : 1 ≤ k) (h2 : k ≤ 31) (ho : o.op = .binOp .and t x y u) (hx : a.eval x = .int .u64 (18446744073709551616 - (k : Int))) (hy : a.eval y = .int .u64 31) : (execOp a.eval o).run Try.prog w = .ok (.value (.int .u64 ((32 - k : Nat) : Int))) w := by
  have hc : (binOp .and t (.int .u64 (18446744073709551616 - (k : Int))) (.int .u64 31)).run Try.prog w = .ok (.int .u64 ((32 - k : Nat) : Int)) w := by
    simp only [binOp, Op.intBits]
    exact congrArg (fun n => Result.ok (Value.int .u64 n) w) (andU31 ⟨k, by omega⟩ h1)
  simp only [execOp, ho, hx, hy]
  simp [eqGuard, hc]
theorem exec_subU {t u : TypeId} (k : Nat) (h1 : 1 ≤ k) (h2 : k ≤ 31) (ho : o.op = .binOp .sub t x y u) (hx : a.eval x = .int .u64 32) (hy : a.eval y = .int .u64 ((32 - k : Nat) : Int)) : (execOp a.eval o).run Try.prog w = .ok (.value (.int .u64 (k : Int))) w := by
  have hc : (binOp .sub t (.int .u64 32) (.int .u64 ((32 - k : Nat) : Int))).run Try.prog w = .ok (.int .u64 (k : Int)) w := by
    simp only [binOp, Op.intArith]
    refine congrArg (fun n => Result.ok (Value.int .u64 n) w) ?_
    simp only [IntKind.wrap, IntKind.signed, IntKind.bits, Bool.false_and, Bool.false_eq_true, if_false]
    omega
  simp only [execOp, ho, hx, hy]
  simp [eqGuard, hc]
theorem exec_cvW {c : UInt8} (ho : o.op = .convert 5 137 x) (hx : a.eval x = .int .u8 (c.toNat : Int)) : (execOp a.eval o).run Try.prog w = .ok (.value (vW (wB c))) w := by
  have h := c.toNat_lt
  have hc : (convert 5 137 (.int .u8 (c.toNat : Int))).run Try.prog w = .ok (vW (wB c)) w := by
    rw [vW, wB_toNat]
    simp [convert]
    simp [Conv.intToInt, IntKind.wrap, IntKind.signed, IntKind.bits]
    omega
  simp [execOp, ho, hx, hc]
end
set_option maxRecDepth 100000 in
set_option maxHeartbeats 1000000 in
theorem rotl_any (x : W) (k : Nat) (h1 : 1 ≤ k) (h2 : k ≤ 31) (w : World) : Calls Try.prog 85 #[vW x, .int .i64 (-(k : Int))] w fun e w' => e = .returned (vW (rot x k)) ∧ Below w.heap.size w w' := by
  have HR := Lib.hid (show (x <<< (32 - k)) ||| (x >>> k) = rot x k by rw [rot, BitVec.or_comm])
  have H1 := Lib.hid (show 32 - k < 32 by omega)
  have H2 := Lib.hid (show k < 32 by omega)
  go_enter Try.func85, Try.ntmps85
  go_wp2_with (first | (refine wpList_valw rfl (exec_cvU k h1 h2 rfl rfl) ?_) | (refine wpList_valw rfl (exec_andU k h1 h2 rfl rfl rfl) ?_) | (refine wpList_valw rfl (exec_subU k h1 h2 rfl rfl rfl) ?_) | (refine wpList_valw rfl (exec_shlW (x := x) (32 - k) H1.out rfl rfl rfl) ?_) | (refine wpList_valw rfl (exec_shrW (x := x) k H2.out rfl rfl rfl) ?_) | (refine wpList_valw rfl (exec_orW (x := x <<< (32 - k)) (y := x >>> k) rfl rfl rfl) ?_; rw [HR.out]))
  go_ret
  exact ⟨rfl, Below.refl _ _⟩
theorem mix_take (x : W) {ks : List Nat} {j k : Nat} (h : ks[j]? = some k) : mixP x (ks.take (j + 1)) = mixP x (ks.take j) ^^^ rot x k := by rw [List.take_add_one, h]; exact mixP_snoc _ _ _
set_option maxRecDepth 100000 in
set_option maxHeartbeats 2000000 in
theorem mixed_any (x : W) (v : Value) (ks : List Nat) (hk : ∀ k ∈ ks, 1 ≤ k ∧ k ≤ 31) (hn : ks.length ≤ 1000) (w : World) (hs : SliceOf EI w v ks) : Calls Try.prog 84 #[vW x, v] w fun e w' => e = .returned (vW (mixP x ks)) ∧ Below w.heap.size w w' := by
  have HS := Lib.hid hs
  have HK := Lib.hid hk
  have hlv := fun W => ints_len hs W
  have HZ := Lib.hid (show Value.int .u32 0 = vW (mixP x (ks.take 0)) from rfl)
  clear hs hk
  go_enter Try.func84, Try.ntmps84
  go_wp2_with fail
  go_loopw [4, 9] (fun o i wr => ∃ j : Nat, j ≤ ks.length ∧ i = .int .i64 (j : Int) ∧ o = vW (mixP x (ks.take j)) ∧ Below w.heap.size w wr) (fun _ i _ => ks.length - (intOf i).toNat)
  case atStart => exact ⟨0, by omega, rfl, HZ.out, Below.refl _ _⟩
  case round =>
    obtain ⟨wr1, rfl⟩ : ∃ y : World, y = wr := ⟨_, rfl⟩
    obtain ⟨j, hj, rfl, rfl, hw⟩ := hrel
    have HW := Lib.hid hw
    clear hw
    by_cases hlt : j < ks.length
    · have hd : decide ((j : Int) < (ks.length : Int)) = true := by simp; omega
      obtain ⟨k, hkj⟩ : ∃ k, ks[j]? = some k := ⟨_, List.getElem?_eq_getElem hlt⟩
      obtain ⟨q, hadr, hq⟩ := int_at (SliceOf.below HS.out HW.out) j k hkj
      have HQ := Lib.hid hq
      have HT := Lib.hid (mix_take x hkj)
      obtain ⟨h1, h2⟩ := HK.out k (List.mem_of_getElem? hkj)
      clear hq hkj
      obtain ⟨m, hm⟩ : ∃ m, mixP x (ks.take j) = m := ⟨_, rfl⟩
      rw [hm] at HT ⊢
      clear hm
      go_wp2_with (first | (with_reducible refine wpList_loadL HQ.out rfl _ rfl rfl ?_))
      refine (rotl_any x k h1 h2 wr1).mono ?_
      rintro e w2 ⟨rfl, hx2⟩
      have HW2 := Lib.hid (Agg.belowThen HW.out (Nat.le_refl _) hx2)
      clear hx2
      go_wp2_with (first | (refine wpList_valw rfl (exec_xorW (x := m) (y := rot x k) rfl rfl rfl) ?_))
      go_roundw
      case rel => exact ⟨j + 1, by omega, by go_num, by rw [HT.out], HW2.out⟩
      case measure => simp [intOf]; omega
    · obtain rfl : j = ks.length := by omega
      rw [List.take_length]
      go_wp2_with fail
      go_ret
      exact ⟨rfl, HW.out⟩
/-- words as cells -/
def wC (l : List W) : Array Value := (l.map vW).toArray
theorem wC_size (l : List W) : (wC l).size = l.length := by simp [wC]
theorem wC_one (l : List W) : (wC l).all (·.oneCell') = true := by
  rw [Array.all_eq_true_iff_forall_mem]
  intro v hv
  simp only [wC, List.mem_toArray, List.mem_map] at hv
  obtain ⟨x, _, rfl⟩ := hv
  rfl
theorem wC_get (l : List W) (i : Nat) (x : W) (h : l[i]? = some x) : (wC l)[i]? = some (vW x) := by simp [wC, h]
theorem wC_set (l : List W) (i : Nat) (x : W) : (wC l).setIfInBounds i (vW x) = wC (l.set i x) := by simp [wC, List.map_set]
theorem w64_zero : (Try.prog.info? 148).map (·.zero) = some (some (.agg (wC (List.replicate 64 0)))) := by kernel_rfl
theorem w64_info (l : List W) (h : l.length = 64) : (Try.prog.info? 148).map (·.size) = some (wC l).size := by rw [wC_size, h]; kernel_rfl
theorem w8_zero : (Try.prog.info? 139).map (·.zero) = some (some (.agg (wC (List.replicate 8 0)))) := by kernel_rfl
theorem w8_info (l : List W) (h : l.length = 8) : (Try.prog.info? 139).map (·.size) = some (wC l).size := by rw [wC_size, h]; kernel_rfl
set_option maxRecDepth 100000 in
set_option maxHeartbeats 2000000 in
theorem rounds_any (w : World) : Calls Try.prog 82 #[] w fun e w' => e = .returned (.agg (wC ks)) ∧ Below w.heap.size w w' := by
  go_enter Try.func82, Try.ntmps82
  go_wp2_with (first | (with_reducible refine wpList_zero rfl 148 rfl (wC (List.replicate 64 0)) w64_zero ?_; intro g1 w1 hb1 hx1 hg1; have HB1 := Lib.hid hb1; have HX1 := Lib.hid hx1; have HG1 := Lib.hid hg1; clear hb1 hx1 hg1) | ((with_reducible refine wpList_put rfl rfl 148 _ _ rfl g1 (wC ks) (wC (List.replicate 64 0)) rfl rfl HB1.out (w64_info _ ks_length) rfl (wC_one _) ?_); intro w2 hb2 hx2 _ _; have HB2 := Lib.hid hb2; have HX2 := Lib.hid (HX1.out.trans (hx2.mono HG1.out)); clear hb2 hx2) | (refine wpList_valw rfl (v := .agg (wC ks)) (by kernel_rfl) ?_))
  exact post_row rfl rfl HB2.out Try.underlying148 rfl (w64_info _ ks_length) rfl ⟨rfl, HX2.out⟩
set_option maxRecDepth 100000 in
set_option maxHeartbeats 2000000 in
theorem first_any (w : World) : Calls Try.prog 77 #[] w fun e w' => e = .returned (.agg (wC Sha.first.list)) ∧ Below w.heap.size w w' := by
  go_enter Try.func77, Try.ntmps77
  go_wp2_with (first | (with_reducible refine wpList_zero rfl 139 rfl (wC (List.replicate 8 0)) w8_zero ?_; intro g1 w1 hb1 hx1 hg1; have HB1 := Lib.hid hb1; have HX1 := Lib.hid hx1; have HG1 := Lib.hid hg1; clear hb1 hx1 hg1) | ((with_reducible refine wpList_put rfl rfl 139 _ _ rfl g1 (wC Sha.first.list) (wC (List.replicate 8 0)) rfl rfl HB1.out (w8_info _ rfl) rfl (wC_one _) ?_); intro w2 hb2 hx2 _ _; have HB2 := Lib.hid hb2; have HX2 := Lib.hid (HX1.out.trans (hx2.mono HG1.out)); clear hb2 hx2) | (refine wpList_valw rfl (v := .agg (wC Sha.first.list)) (by kernel_rfl) ?_))
  exact post_row rfl rfl HB2.out Try.underlying139 rfl (w8_info _ rfl) rfl ⟨rfl, HX2.out⟩
end Go.Proofs.Ytgekpghjlhcpkaa
/-! hash.spread: a block's sixteen words, and those made of them. -/
namespace Go.Agg
open Go.RowKit
theorem step_slice2 {P : Program} {α : Type} {E : Elem P α} {ops : Array Oper} {o : Oper} {a : Act} {w : World} {Q : Exit → Act → World → Prop} {K : Act → World → Prop} {F : Prop} (hg : o.guard = none) (x y : Operand) (ho : o.op = .buildSlice E.st 2 #[(0, x), (1, y)]) (vx vy : α) (hx : a.eval x = E.val vx) (hy : a.eval y = E.val vy)
    (h : ∀ v' w', SliceOf E w' v' [vx, vy] → Below w.heap.size w w' → K (a.put o.dst v') w') : if Region.wanted o (yielded ops a.tmps) = true then o.wp P a w K Q else F :=
  step_val hg (v := .slice (some ⟨w.heap.size, 0, none⟩) 2 2) (w' := w.alloc (.cells ((E.val vx).cells ++ (E.val vy).cells) E.ty)) (by simp [execOp, ho, hx, hy, run_slice_two])
    (h _ _ (slice_of_block2 (Blk.new w E.ty _)) ((Below.refl _ _).alloc (Nat.le_refl _) _))
end Go.Agg
namespace Go.Proofs.Ytgekpghjlhcpkaa
open Go.RowKit Pl Go.Agg Go.Sha
/-- bytes in the midst of a block -/
def BytesIn (w : World) (g o : Nat) (bs : List UInt8) : Prop := ∀ (i : Nat) (c : UInt8), bs[i]? = some c → LoadsL Try.prog w 5 (some ⟨g, o + i, none⟩) (.int .u8 (c.toNat : Int))
theorem BytesIn.below {w w' : World} {g o : Nat} {bs : List UInt8} (h : BytesIn w g o bs) (hb : Below w.heap.size w w') : BytesIn w' g o bs := fun i c hc => (h i c hc).below hb
theorem set_mid {α : Type} (l : List α) (x z : α) (n : Nat) : (l ++ List.replicate (n + 1) z).set l.length x = (l ++ [x]) ++ List.replicate n z := by
  rw [List.set_append_right _ _ (Nat.le_refl _), Nat.sub_self, List.replicate_succ, List.set_cons_zero, List.append_assoc]; rfl
theorem words_set (bs : List UInt8) (k : Nat) (hk : k < 64) (x : W) (hx : words bs (k + 1) = words bs k ++ [x]) : (words bs k ++ List.replicate (64 - k) 0).set k x = words bs (k + 1) ++ List.replicate (64 - (k + 1)) 0 := by
  have := set_mid (words bs k) x 0 (64 - (k + 1))
  rw [words_length, show 64 - (k + 1) + 1 = 64 - k by omega, ← hx] at this
  exact this
theorem words_lo {bs : List UInt8} {k : Nat} (h : k < 16) : words bs (k + 1) = words bs k ++ [word bs (4 * k)] := by rw [words]; simp [h]
theorem words_hi {bs : List UInt8} {k : Nat} (h : ¬ k < 16) : words bs (k + 1) = words bs k ++ [nextW (words bs k)] := by rw [words]; simp [h]
theorem words_at {bs : List UInt8} {k i : Nat} (_hk : k ≤ 64) (hi : i < k) : (words bs k ++ List.replicate (64 - k) 0)[i]? = some ((words bs k).getD i 0) := by
  rw [List.getElem?_append_left (by rw [words_length]; exact hi), List.getElem?_eq_getElem (by rw [words_length]; exact hi)]
  simp [List.getD, List.getElem?_eq_getElem (show i < (words bs k).length by rw [words_length]; exact hi)]
/-- two words that stay while the next one is stored -/
def SprS (g k : Nat) (w7 w16 : W) (u : World) : Prop := ∃ L : List W, Blk u g 148 (wC L) ∧ L[k - 7]? = some w7 ∧ L[k - 16]? = some w16
theorem SprS.l7 {g k : Nat} {w7 w16 : W} {u : World} (h : SprS g k w7 w16 u) : LoadsL Try.prog u 137 (some ⟨g, k - 7, none⟩) (vW w7) := by
  obtain ⟨L, hB, h7, h16⟩ := h
  exact hB.one (P := Try.prog) (k - 7) (wC_get _ _ _ h7) Try.underlying137 rfl
theorem SprS.l16 {g k : Nat} {w7 w16 : W} {u : World} (h : SprS g k w7 w16 u) : LoadsL Try.prog u 137 (some ⟨g, k - 16, none⟩) (vW w16) := by
  obtain ⟨L, hB, h7, h16⟩ := h
  exact hB.one (P := Try.prog) (k - 16) (wC_get _ _ _ h16) Try.underlying137 rfl
set_option maxRecDepth 100000 in
set_option maxHeartbeats 16000000 in
theorem spread_any (gb ob : Nat) (bs : List UInt8) (hbs : bs.length = 64) (w : World) (hb : BytesIn w gb ob bs) : Calls Try.prog 83 #[.pointer (some ⟨gb, ob, none⟩)] w fun e w' => e = .returned (.agg (wC (words bs 64))) ∧ Below w.heap.size w w' := by
  have HIB := Lib.hid (fun (i : Nat) (h : i < 64) W => run_idxArr (P := Try.prog) (t := 141) (e := 5) (w := W) Try.underlying141 (by kernel_rfl) gb ob i h)
  have HEM := Lib.hid (enters_of Try.func84 (by kernel_rfl) rfl : ∀ args w, (callFunc 84 args).run Try.prog w = .ok (.enter 84 args) w)
  have HSB := Lib.hid (fun W (k : Below w.heap.size w W) => hb.below k)
  clear hb
  go_enter Try.func83, Try.ntmps83
  go_wp2_with (first | (with_reducible refine wpList_zero rfl 148 rfl (wC (List.replicate 64 0)) w64_zero ?_; intro g2 w2 hb2 hx2 hg2; have HB2 := Lib.hid hb2; have HX2 := Lib.hid hx2; have HG2 := Lib.hid hg2; clear hb2 hx2 hg2))
  have HIG := Lib.hid (fun (i : Nat) (h : i < 64) W => (show (Instr.indexAt 148 (.pointer (some ⟨g2, 0, none⟩)) (.int .i64 (i : Int))).run Try.prog W = .ok (.pointer (some ⟨g2, i, none⟩)) W by have := run_idxArr (P := Try.prog) (t := 148) (e := 137) (w := W) Try.underlying148 (by kernel_rfl) g2 0 i h; rwa [Nat.zero_add] at this))
  go_loopw [7] (fun i wr => ∃ k : Nat, k ≤ 64 ∧ i = .int .i64 (k : Int) ∧ Blk wr g2 148 (wC (words bs k ++ List.replicate (64 - k) 0)) ∧ Below w.heap.size w wr) (fun i _ => 64 - (intOf i).toNat)
  case atStart => exact ⟨0, by omega, rfl, HB2.out, HX2.out⟩
  case round =>
    obtain ⟨wr1, rfl⟩ : ∃ y : World, y = wr := ⟨_, rfl⟩
    obtain ⟨k, hk, rfl, hb, hw⟩ := hrel
    have HB := Lib.hid hb
    have HW := Lib.hid hw
    clear hb hw
    by_cases hlt : k < 64
    · have hd1 : decide ((k : Int) < 64) = true := by simp; omega
      by_cases h16 : k < 16
      · have hd2 : decide ((k : Int) < 16) = true := by simp; omega
        obtain ⟨c0, hc0⟩ : ∃ c, bs[4 * k]? = some c := ⟨_, List.getElem?_eq_getElem (by omega)⟩
        obtain ⟨c1, hc1⟩ : ∃ c, bs[4 * k + 1]? = some c := ⟨_, List.getElem?_eq_getElem (by omega)⟩
        obtain ⟨c2, hc2⟩ : ∃ c, bs[4 * k + 2]? = some c := ⟨_, List.getElem?_eq_getElem (by omega)⟩
        obtain ⟨c3, hc3⟩ : ∃ c, bs[4 * k + 3]? = some c := ⟨_, List.getElem?_eq_getElem (by omega)⟩
        have HWD := Lib.hid (show (((wB c0 <<< 24) ||| (wB c1 <<< 16)) ||| (wB c2 <<< 8)) ||| wB c3 = word bs (4 * k) by rw [word_or]; simp [word, List.getD, hc0, hc1, hc2, hc3])
        have HNX := Lib.hid (words_set bs k hlt _ (words_lo h16))
        have HC0 := Lib.hid hc0
        have HC1 := Lib.hid hc1
        have HC2 := Lib.hid hc2
        have HC3 := Lib.hid hc3
        clear hc0 hc1 hc2 hc3
        go_wp2_with (first | (refine wpList_valw rfl (exec_mulI (m := 4) (n := k) (by omega) rfl rfl rfl) ?_))
        try simp only [List.append_eq, List.cons_append, List.nil_append]
        try simp only [Act.put, List.setIfInBounds_toArray, List.set_cons_succ, List.set_cons_zero]
        obtain ⟨w_d, hwd⟩ : ∃ W, W = wr1.drew := ⟨_, rfl⟩
        have hd : Below wr1.heap.size wr1 w_d := by rw [hwd]; exact (Below.refl _ _).drew
        have K_d := Lib.hid (Agg.belowThen HW.out (Nat.le_refl _) hd)
        have HB_d := Lib.hid (HB.out.below hd)
        have S_d := Lib.hid (HSB.out w_d K_d.out)
        refine wp_region_held_drew (S := fun W => BytesIn W gb ob bs) (by kernel_rfl) (by rw [← hwd]; exact S_d.out) (fun hHeld => ?_)
        rw [← hwd] at hHeld ⊢
        clear hwd hd hHeld
        refine Agg.held_take 0 (.int .i64 ((k : Nat) : Int)) rfl (by kernel_rfl) (fun _ _ _ h => h) rfl (fun W _ => by kernel_rfl) (by assumption) ?_
        try simp only [Act.put, List.setIfInBounds_toArray, List.set_cons_succ, List.set_cons_zero]
        refine Agg.held_take 1 (.pointer (some ⟨gb, ob, none⟩)) rfl (by kernel_rfl) (fun _ _ _ h => h) rfl (fun W _ => by kernel_rfl) (by assumption) ?_
        try simp only [Act.put, List.setIfInBounds_toArray, List.set_cons_succ, List.set_cons_zero]
        refine Agg.held_take 2 (.int .i64 ((4 * k : Nat) : Int)) rfl (by kernel_rfl) (fun _ _ _ h => h) rfl (fun W _ => by kernel_rfl) (by assumption) ?_
        try simp only [Act.put, List.setIfInBounds_toArray, List.set_cons_succ, List.set_cons_zero]
        refine Agg.held_take 3 (.pointer (some ⟨gb, ob, none⟩)) rfl (by kernel_rfl) (fun _ _ _ h => h) rfl (fun W _ => by kernel_rfl) (by assumption) ?_
        try simp only [Act.put, List.setIfInBounds_toArray, List.set_cons_succ, List.set_cons_zero]
        refine Agg.held_take 4 (.pointer (some ⟨gb, ob + (4 * k), none⟩)) rfl (by kernel_rfl) (fun _ _ _ h => h) rfl (fun W _ => exec_idx rfl rfl rfl (HIB.out (4 * k) (by omega) W)) (by assumption) ?_
        try simp only [Act.put, List.setIfInBounds_toArray, List.set_cons_succ, List.set_cons_zero]
        refine Agg.held_take 5 (.int .u8 (c0.toNat : Int)) rfl (by kernel_rfl) (fun _ _ _ h => h) rfl (fun W hS => exec_loadB rfl rfl (hS _ _ HC0.out).now) (by assumption) ?_
        try simp only [Act.put, List.setIfInBounds_toArray, List.set_cons_succ, List.set_cons_zero]
        refine Agg.held_take 6 (vW (wB c0)) rfl (by kernel_rfl) (fun _ _ _ h => h) rfl (fun W _ => exec_cvW rfl rfl) (by assumption) ?_
        try simp only [Act.put, List.setIfInBounds_toArray, List.set_cons_succ, List.set_cons_zero]
        refine Agg.held_take 7 (vW (wB c0 <<< 24)) rfl (by kernel_rfl) (fun _ _ _ h => h) rfl (fun W _ => exec_shlW (x := wB c0) 24 (by decide) rfl rfl rfl) (by assumption) ?_
        try simp only [Act.put, List.setIfInBounds_toArray, List.set_cons_succ, List.set_cons_zero]
        refine Agg.held_take 8 (.pointer (some ⟨gb, ob, none⟩)) rfl (by kernel_rfl) (fun _ _ _ h => h) rfl (fun W _ => by kernel_rfl) (by assumption) ?_
        try simp only [Act.put, List.setIfInBounds_toArray, List.set_cons_succ, List.set_cons_zero]
        refine Agg.held_take 9 (.int .i64 ((4 * k : Nat) : Int)) rfl (by kernel_rfl) (fun _ _ _ h => h) rfl (fun W _ => by kernel_rfl) (by assumption) ?_
        try simp only [Act.put, List.setIfInBounds_toArray, List.set_cons_succ, List.set_cons_zero]
        refine Agg.held_take 10 (.int .i64 ((4 * k + 1 : Nat) : Int)) rfl (by kernel_rfl) (fun _ _ _ h => h) rfl (fun W _ => exec_addI (m := 4 * k) (n := 1) (by omega) rfl rfl rfl) (by assumption) ?_
        try simp only [Act.put, List.setIfInBounds_toArray, List.set_cons_succ, List.set_cons_zero]
        refine Agg.held_take 11 (.pointer (some ⟨gb, ob, none⟩)) rfl (by kernel_rfl) (fun _ _ _ h => h) rfl (fun W _ => by kernel_rfl) (by assumption) ?_
        try simp only [Act.put, List.setIfInBounds_toArray, List.set_cons_succ, List.set_cons_zero]
        refine Agg.held_take 12 (.pointer (some ⟨gb, ob + (4 * k + 1), none⟩)) rfl (by kernel_rfl) (fun _ _ _ h => h) rfl (fun W _ => exec_idx rfl rfl rfl (HIB.out (4 * k + 1) (by omega) W)) (by assumption) ?_
        try simp only [Act.put, List.setIfInBounds_toArray, List.set_cons_succ, List.set_cons_zero]
        refine Agg.held_take 13 (.int .u8 (c1.toNat : Int)) rfl (by kernel_rfl) (fun _ _ _ h => h) rfl (fun W hS => exec_loadB rfl rfl (hS _ _ HC1.out).now) (by assumption) ?_
        try simp only [Act.put, List.setIfInBounds_toArray, List.set_cons_succ, List.set_cons_zero]
        refine Agg.held_take 14 (vW (wB c1)) rfl (by kernel_rfl) (fun _ _ _ h => h) rfl (fun W _ => exec_cvW rfl rfl) (by assumption) ?_
        try simp only [Act.put, List.setIfInBounds_toArray, List.set_cons_succ, List.set_cons_zero]
        refine Agg.held_take 15 (vW (wB c1 <<< 16)) rfl (by kernel_rfl) (fun _ _ _ h => h) rfl (fun W _ => exec_shlW (x := wB c1) 16 (by decide) rfl rfl rfl) (by assumption) ?_
        try simp only [Act.put, List.setIfInBounds_toArray, List.set_cons_succ, List.set_cons_zero]
        refine Agg.held_take 16 (vW ((wB c0 <<< 24) ||| (wB c1 <<< 16))) rfl (by kernel_rfl) (fun _ _ _ h => h) rfl (fun W _ => exec_orW (x := wB c0 <<< 24) (y := wB c1 <<< 16) rfl rfl rfl) (by assumption) ?_
        try simp only [Act.put, List.setIfInBounds_toArray, List.set_cons_succ, List.set_cons_zero]
        refine Agg.held_take 17 (.pointer (some ⟨gb, ob, none⟩)) rfl (by kernel_rfl) (fun _ _ _ h => h) rfl (fun W _ => by kernel_rfl) (by assumption) ?_
        try simp only [Act.put, List.setIfInBounds_toArray, List.set_cons_succ, List.set_cons_zero]
        refine Agg.held_take 18 (.int .i64 ((4 * k : Nat) : Int)) rfl (by kernel_rfl) (fun _ _ _ h => h) rfl (fun W _ => by kernel_rfl) (by assumption) ?_
        try simp only [Act.put, List.setIfInBounds_toArray, List.set_cons_succ, List.set_cons_zero]
        refine Agg.held_take 19 (.int .i64 ((4 * k + 2 : Nat) : Int)) rfl (by kernel_rfl) (fun _ _ _ h => h) rfl (fun W _ => exec_addI (m := 4 * k) (n := 2) (by omega) rfl rfl rfl) (by assumption) ?_
        try simp only [Act.put, List.setIfInBounds_toArray, List.set_cons_succ, List.set_cons_zero]
        refine Agg.held_take 20 (.pointer (some ⟨gb, ob, none⟩)) rfl (by kernel_rfl) (fun _ _ _ h => h) rfl (fun W _ => by kernel_rfl) (by assumption) ?_
        try simp only [Act.put, List.setIfInBounds_toArray, List.set_cons_succ, List.set_cons_zero]
        refine Agg.held_take 21 (.pointer (some ⟨gb, ob + (4 * k + 2), none⟩)) rfl (by kernel_rfl) (fun _ _ _ h => h) rfl (fun W _ => exec_idx rfl rfl rfl (HIB.out (4 * k + 2) (by omega) W)) (by assumption) ?_
        try simp only [Act.put, List.setIfInBounds_toArray, List.set_cons_succ, List.set_cons_zero]
        refine Agg.held_take 22 (.int .u8 (c2.toNat : Int)) rfl (by kernel_rfl) (fun _ _ _ h => h) rfl (fun W hS => exec_loadB rfl rfl (hS _ _ HC2.out).now) (by assumption) ?_
        try simp only [Act.put, List.setIfInBounds_toArray, List.set_cons_succ, List.set_cons_zero]
        refine Agg.held_take 23 (vW (wB c2)) rfl (by kernel_rfl) (fun _ _ _ h => h) rfl (fun W _ => exec_cvW rfl rfl) (by assumption) ?_
        try simp only [Act.put, List.setIfInBounds_toArray, List.set_cons_succ, List.set_cons_zero]
        refine Agg.held_take 24 (vW (wB c2 <<< 8)) rfl (by kernel_rfl) (fun _ _ _ h => h) rfl (fun W _ => exec_shlW (x := wB c2) 8 (by decide) rfl rfl rfl) (by assumption) ?_
        try simp only [Act.put, List.setIfInBounds_toArray, List.set_cons_succ, List.set_cons_zero]
        refine Agg.held_take 25 (vW (((wB c0 <<< 24) ||| (wB c1 <<< 16)) ||| (wB c2 <<< 8))) rfl (by kernel_rfl) (fun _ _ _ h => h) rfl (fun W _ => exec_orW (x := (wB c0 <<< 24) ||| (wB c1 <<< 16)) (y := wB c2 <<< 8) rfl rfl rfl) (by assumption) ?_
        try simp only [Act.put, List.setIfInBounds_toArray, List.set_cons_succ, List.set_cons_zero]
        refine Agg.held_take 26 (.pointer (some ⟨gb, ob, none⟩)) rfl (by kernel_rfl) (fun _ _ _ h => h) rfl (fun W _ => by kernel_rfl) (by assumption) ?_
        try simp only [Act.put, List.setIfInBounds_toArray, List.set_cons_succ, List.set_cons_zero]
        refine Agg.held_take 27 (.int .i64 ((4 * k : Nat) : Int)) rfl (by kernel_rfl) (fun _ _ _ h => h) rfl (fun W _ => by kernel_rfl) (by assumption) ?_
        try simp only [Act.put, List.setIfInBounds_toArray, List.set_cons_succ, List.set_cons_zero]
        refine Agg.held_take 28 (.int .i64 ((4 * k + 3 : Nat) : Int)) rfl (by kernel_rfl) (fun _ _ _ h => h) rfl (fun W _ => exec_addI (m := 4 * k) (n := 3) (by omega) rfl rfl rfl) (by assumption) ?_
        try simp only [Act.put, List.setIfInBounds_toArray, List.set_cons_succ, List.set_cons_zero]
        refine Agg.held_take 29 (.pointer (some ⟨gb, ob, none⟩)) rfl (by kernel_rfl) (fun _ _ _ h => h) rfl (fun W _ => by kernel_rfl) (by assumption) ?_
        try simp only [Act.put, List.setIfInBounds_toArray, List.set_cons_succ, List.set_cons_zero]
        refine Agg.held_take 30 (.pointer (some ⟨gb, ob + (4 * k + 3), none⟩)) rfl (by kernel_rfl) (fun _ _ _ h => h) rfl (fun W _ => exec_idx rfl rfl rfl (HIB.out (4 * k + 3) (by omega) W)) (by assumption) ?_
        try simp only [Act.put, List.setIfInBounds_toArray, List.set_cons_succ, List.set_cons_zero]
        refine Agg.held_take 31 (.int .u8 (c3.toNat : Int)) rfl (by kernel_rfl) (fun _ _ _ h => h) rfl (fun W hS => exec_loadB rfl rfl (hS _ _ HC3.out).now) (by assumption) ?_
        try simp only [Act.put, List.setIfInBounds_toArray, List.set_cons_succ, List.set_cons_zero]
        refine Agg.held_take 32 (vW (wB c3)) rfl (by kernel_rfl) (fun _ _ _ h => h) rfl (fun W _ => exec_cvW rfl rfl) (by assumption) ?_
        try simp only [Act.put, List.setIfInBounds_toArray, List.set_cons_succ, List.set_cons_zero]
        refine Agg.held_take 33 (vW (word bs (4 * k))) rfl (by kernel_rfl) (fun _ _ _ h => h) rfl (fun W _ => by rw [← HWD.out]; exact exec_orW (x := ((wB c0 <<< 24) ||| (wB c1 <<< 16)) ||| (wB c2 <<< 8)) (y := wB c3) rfl rfl rfl) (by assumption) ?_
        try simp only [Act.put, List.setIfInBounds_toArray, List.set_cons_succ, List.set_cons_zero]
        refine Agg.held_take 34 (.pointer (some ⟨g2, k, none⟩)) rfl (by kernel_rfl) (fun _ _ _ h => h) rfl (fun W _ => exec_idx rfl rfl rfl (HIG.out k (by omega) W)) (by assumption) ?_
        try simp only [Act.put, List.setIfInBounds_toArray, List.set_cons_succ, List.set_cons_zero]
        refine Agg.held_ready [35] (by kernel_rfl) (by simp) ?_
        refine Agg.held_cons rfl ?_ ?_
        · obtain ⟨w_d_35, hrun, hb, ho⟩ := Blk.run_one (P := Try.prog) (ty := 137) HB_d.out k (by rw [wC_size]; simp [words_length]; omega) (vW (word bs (4 * k))) rfl rfl (by kernel_rfl) (wC (words bs (k + 1) ++ List.replicate (64 - (k + 1)) 0)) (by rw [wC_set, HNX.out])
          refine Agg.step_store rfl rfl 137 _ _ rfl (.pointer (some ⟨g2, k, none⟩)) (vW (word bs (4 * k))) rfl rfl hrun ?_
          have K_d_35 := Lib.hid (K_d.out.trans (ho.below (B := w.heap.size) K_d.out.size (fun i hi => by subst hi; exact HG2.out)))
          have B_d_35 := Lib.hid hb
          have S_d_35 := Lib.hid (HSB.out w_d_35 K_d_35.out)
          clear hrun hb ho
          refine ⟨S_d_35.out, ?_⟩
          try simp only [Act.put, List.setIfInBounds_toArray, List.set_cons_succ, List.set_cons_zero]
          refine Agg.held_end (by kernel_rfl) ?_
          go_wp2_with fail
          go_roundw
          case rel => exact ⟨k + 1, by omega, by go_num, B_d_35.out, K_d_35.out⟩
          case measure => simp [intOf]; omega
        exact AllReadyH.nil
      · have hd2 : decide ((k : Int) < 16) = false := by simp; omega
        obtain ⟨w2, hw2⟩ : ∃ x, (words bs k).getD (k - 2) 0 = x := ⟨_, rfl⟩
        obtain ⟨w7, hw7⟩ : ∃ x, (words bs k).getD (k - 7) 0 = x := ⟨_, rfl⟩
        obtain ⟨w15, hw15⟩ : ∃ x, (words bs k).getD (k - 15) 0 = x := ⟨_, rfl⟩
        obtain ⟨w16, hw16⟩ : ∃ x, (words bs k).getD (k - 16) 0 = x := ⟨_, rfl⟩
        have Hw2 := Lib.hid (show (words bs k ++ List.replicate (64 - k) 0)[k - 2]? = some w2 by rw [words_at hk (by omega), hw2])
        have Hw7 := Lib.hid (show (words bs k ++ List.replicate (64 - k) 0)[k - 7]? = some w7 by rw [words_at hk (by omega), hw7])
        have Hw15 := Lib.hid (show (words bs k ++ List.replicate (64 - k) 0)[k - 15]? = some w15 by rw [words_at hk (by omega), hw15])
        have Hw16 := Lib.hid (show (words bs k ++ List.replicate (64 - k) 0)[k - 16]? = some w16 by rw [words_at hk (by omega), hw16])
        have HNW := Lib.hid (show (mixP w2 [17, 19] ^^^ (w2 >>> 10)) + w7 + (mixP w15 [7, 18] ^^^ (w15 >>> 3)) + w16 = nextW (words bs k) by rw [mix_t1, mix_t0, nextW, words_length, hw2, hw7, hw15, hw16])
        have HNX := Lib.hid (words_set bs k hlt _ (words_hi h16))
        clear hw2 hw7 hw15 hw16
        go_wp2_with fail
        try simp only [List.append_eq, List.cons_append, List.nil_append]
        try simp only [Act.put, List.setIfInBounds_toArray, List.set_cons_succ, List.set_cons_zero]
        obtain ⟨w_d, hwd⟩ : ∃ W, W = wr1.drew := ⟨_, rfl⟩
        have hd : Below wr1.heap.size wr1 w_d := by rw [hwd]; exact (Below.refl _ _).drew
        have K_d := Lib.hid (Agg.belowThen HW.out (Nat.le_refl _) hd)
        have HB_d := Lib.hid (HB.out.below hd)
        have S_d := Lib.hid (HSB.out w_d K_d.out)
        refine wp_region_held_drew (S := fun W => Blk W g2 148 (wC (words bs k ++ List.replicate (64 - k) 0))) (by kernel_rfl) (by rw [← hwd]; exact HB_d.out) (fun hHeld => ?_)
        rw [← hwd] at hHeld ⊢
        clear hwd hd hHeld
        refine Agg.held_take 0 (.int .i64 ((k : Nat) : Int)) rfl (by kernel_rfl) (fun _ _ _ h => h) rfl (fun W _ => by kernel_rfl) (by assumption) ?_
        try simp only [Act.put, List.setIfInBounds_toArray, List.set_cons_succ, List.set_cons_zero]
        refine Agg.held_take 1 (.int .i64 ((k - 2 : Nat) : Int)) rfl (by kernel_rfl) (fun _ _ _ h => h) rfl (fun W _ => exec_subI (m := k) (n := 2) (by omega) (by omega) rfl rfl rfl) (by assumption) ?_
        try simp only [Act.put, List.setIfInBounds_toArray, List.set_cons_succ, List.set_cons_zero]
        refine Agg.held_take 2 (.pointer (some ⟨g2, k - 2, none⟩)) rfl (by kernel_rfl) (fun _ _ _ h => h) rfl (fun W _ => exec_idx rfl rfl rfl (HIG.out (k - 2) (by omega) W)) (by assumption) ?_
        try simp only [Act.put, List.setIfInBounds_toArray, List.set_cons_succ, List.set_cons_zero]
        refine Agg.held_take 3 (vW w2) rfl (by kernel_rfl) (fun _ _ _ h => h) rfl (fun W hS => exec_loadB rfl rfl (hS.one (P := Try.prog) (ty := 137) (k - 2) (wC_get _ _ _ Hw2.out) Try.underlying137 rfl).now) (by assumption) ?_
        try simp only [Act.put, List.setIfInBounds_toArray, List.set_cons_succ, List.set_cons_zero]
        refine Agg.held_take 4 (.int .i64 ((k : Nat) : Int)) rfl (by kernel_rfl) (fun _ _ _ h => h) rfl (fun W _ => by kernel_rfl) (by assumption) ?_
        try simp only [Act.put, List.setIfInBounds_toArray, List.set_cons_succ, List.set_cons_zero]
        refine Agg.held_take 5 (.int .i64 ((k - 15 : Nat) : Int)) rfl (by kernel_rfl) (fun _ _ _ h => h) rfl (fun W _ => exec_subI (m := k) (n := 15) (by omega) (by omega) rfl rfl rfl) (by assumption) ?_
        try simp only [Act.put, List.setIfInBounds_toArray, List.set_cons_succ, List.set_cons_zero]
        refine Agg.held_take 6 (.pointer (some ⟨g2, k - 15, none⟩)) rfl (by kernel_rfl) (fun _ _ _ h => h) rfl (fun W _ => exec_idx rfl rfl rfl (HIG.out (k - 15) (by omega) W)) (by assumption) ?_
        try simp only [Act.put, List.setIfInBounds_toArray, List.set_cons_succ, List.set_cons_zero]
        refine Agg.held_take 7 (vW w15) rfl (by kernel_rfl) (fun _ _ _ h => h) rfl (fun W hS => exec_loadB rfl rfl (hS.one (P := Try.prog) (ty := 137) (k - 15) (wC_get _ _ _ Hw15.out) Try.underlying137 rfl).now) (by assumption) ?_
        try simp only [Act.put, List.setIfInBounds_toArray, List.set_cons_succ, List.set_cons_zero]
        refine Agg.held_take 8 (vW w2) rfl (by kernel_rfl) (fun _ _ _ h => h) rfl (fun W _ => by kernel_rfl) (by assumption) ?_
        try simp only [Act.put, List.setIfInBounds_toArray, List.set_cons_succ, List.set_cons_zero]
        refine Agg.held_take 9 (vW w15) rfl (by kernel_rfl) (fun _ _ _ h => h) rfl (fun W _ => by kernel_rfl) (by assumption) ?_
        try simp only [Act.put, List.setIfInBounds_toArray, List.set_cons_succ, List.set_cons_zero]
        refine Agg.held_end (by kernel_rfl) ?_
        go_wp2_with fail
        try simp only [List.append_eq, List.cons_append, List.nil_append]
        try simp only [Act.put, List.setIfInBounds_toArray, List.set_cons_succ, List.set_cons_zero]
        obtain ⟨w_e, hwd⟩ : ∃ W, W = w_d.drew := ⟨_, rfl⟩
        have hd : Below w_d.heap.size w_d w_e := by rw [hwd]; exact (Below.refl _ _).drew
        have K_e := Lib.hid (Agg.belowThen K_d.out (Nat.le_refl _) hd)
        have G_e := Lib.hid (HB_d.out.below hd)
        have S_e := Lib.hid (⟨_, G_e.out, Hw7.out, Hw16.out⟩ : SprS g2 k w7 w16 w_e)
        refine wp_region_held_drew (S := SprS g2 k w7 w16) (by kernel_rfl) (by rw [← hwd]; exact S_e.out) (fun hHeld => ?_)
        rw [← hwd] at hHeld ⊢
        clear hwd hd hHeld
        refine Agg.held_take 0 (.int .i64 ((k : Nat) : Int)) rfl (by kernel_rfl) (fun _ _ _ h => h) rfl (fun W _ => by kernel_rfl) (by assumption) ?_
        try simp only [Act.put, List.setIfInBounds_toArray, List.set_cons_succ, List.set_cons_zero]
        refine Agg.held_take 1 (vW w2) rfl (by kernel_rfl) (fun _ _ _ h => h) rfl (fun W _ => by kernel_rfl) (by assumption) ?_
        try simp only [Act.put, List.setIfInBounds_toArray, List.set_cons_succ, List.set_cons_zero]
        refine Agg.held_take 4 (vW w2) rfl (by kernel_rfl) (fun _ _ _ h => h) rfl (fun W _ => by kernel_rfl) (by assumption) ?_
        try simp only [Act.put, List.setIfInBounds_toArray, List.set_cons_succ, List.set_cons_zero]
        refine Agg.held_take 5 (vW (w2 >>> 10)) rfl (by kernel_rfl) (fun _ _ _ h => h) rfl (fun W _ => exec_shrW (x := w2) 10 (by decide) rfl rfl rfl) (by assumption) ?_
        try simp only [Act.put, List.setIfInBounds_toArray, List.set_cons_succ, List.set_cons_zero]
        refine Agg.held_take 7 (.int .i64 ((k : Nat) : Int)) rfl (by kernel_rfl) (fun _ _ _ h => h) rfl (fun W _ => by kernel_rfl) (by assumption) ?_
        try simp only [Act.put, List.setIfInBounds_toArray, List.set_cons_succ, List.set_cons_zero]
        refine Agg.held_take 8 (.int .i64 ((k - 7 : Nat) : Int)) rfl (by kernel_rfl) (fun _ _ _ h => h) rfl (fun W _ => exec_subI (m := k) (n := 7) (by omega) (by omega) rfl rfl rfl) (by assumption) ?_
        try simp only [Act.put, List.setIfInBounds_toArray, List.set_cons_succ, List.set_cons_zero]
        refine Agg.held_take 9 (.pointer (some ⟨g2, k - 7, none⟩)) rfl (by kernel_rfl) (fun _ _ _ h => h) rfl (fun W _ => exec_idx rfl rfl rfl (HIG.out (k - 7) (by omega) W)) (by assumption) ?_
        try simp only [Act.put, List.setIfInBounds_toArray, List.set_cons_succ, List.set_cons_zero]
        refine Agg.held_take 10 (vW w7) rfl (by kernel_rfl) (fun _ _ _ h => h) rfl (fun u hS => exec_loadB rfl rfl hS.l7.now) (by assumption) ?_
        try simp only [Act.put, List.setIfInBounds_toArray, List.set_cons_succ, List.set_cons_zero]
        refine Agg.held_take 12 (vW w15) rfl (by kernel_rfl) (fun _ _ _ h => h) rfl (fun W _ => by kernel_rfl) (by assumption) ?_
        try simp only [Act.put, List.setIfInBounds_toArray, List.set_cons_succ, List.set_cons_zero]
        refine Agg.held_take 15 (vW w15) rfl (by kernel_rfl) (fun _ _ _ h => h) rfl (fun W _ => by kernel_rfl) (by assumption) ?_
        try simp only [Act.put, List.setIfInBounds_toArray, List.set_cons_succ, List.set_cons_zero]
        refine Agg.held_take 16 (vW (w15 >>> 3)) rfl (by kernel_rfl) (fun _ _ _ h => h) rfl (fun W _ => exec_shrW (x := w15) 3 (by decide) rfl rfl rfl) (by assumption) ?_
        try simp only [Act.put, List.setIfInBounds_toArray, List.set_cons_succ, List.set_cons_zero]
        refine Agg.held_take 19 (.int .i64 ((k : Nat) : Int)) rfl (by kernel_rfl) (fun _ _ _ h => h) rfl (fun W _ => by kernel_rfl) (by assumption) ?_
        try simp only [Act.put, List.setIfInBounds_toArray, List.set_cons_succ, List.set_cons_zero]
        refine Agg.held_take 20 (.int .i64 ((k - 16 : Nat) : Int)) rfl (by kernel_rfl) (fun _ _ _ h => h) rfl (fun W _ => exec_subI (m := k) (n := 16) (by omega) (by omega) rfl rfl rfl) (by assumption) ?_
        try simp only [Act.put, List.setIfInBounds_toArray, List.set_cons_succ, List.set_cons_zero]
        refine Agg.held_take 21 (.pointer (some ⟨g2, k - 16, none⟩)) rfl (by kernel_rfl) (fun _ _ _ h => h) rfl (fun W _ => exec_idx rfl rfl rfl (HIG.out (k - 16) (by omega) W)) (by assumption) ?_
        try simp only [Act.put, List.setIfInBounds_toArray, List.set_cons_succ, List.set_cons_zero]
        refine Agg.held_take 22 (vW w16) rfl (by kernel_rfl) (fun _ _ _ h => h) rfl (fun u hS => exec_loadB rfl rfl hS.l16.now) (by assumption) ?_
        try simp only [Act.put, List.setIfInBounds_toArray, List.set_cons_succ, List.set_cons_zero]
        refine Agg.held_ready [2, 13] (by kernel_rfl) (by simp) ?_
        refine Agg.held_cons rfl ?_ ?_
        · refine Agg.step_slice2 (E := EI) rfl _ _ rfl 17 19 rfl rfl ?_
          intro va w_e_2 hs hx
          have K_e_2 := Lib.hid (Agg.belowThen K_e.out (Nat.le_refl _) hx)
          have G_e_2 := Lib.hid (G_e.out.below hx)
          have Vva_e_2 := Lib.hid hs
          clear hs hx
          have S_e_2 := Lib.hid (⟨_, G_e_2.out, Hw7.out, Hw16.out⟩ : SprS g2 k w7 w16 w_e_2)
          refine ⟨S_e_2.out, ?_⟩
          try simp only [Act.put, List.setIfInBounds_toArray, List.set_cons_succ, List.set_cons_zero]
          refine Agg.held_ready [3, 13] (by kernel_rfl) (by simp) ?_
          refine Agg.held_cons rfl ?_ ?_
          · refine Agg.step_call rfl 84 _ _ rfl #[vW w2, va] (by simp only [List.map_toArray, List.map_cons, List.map_nil]; rfl) (fun W => HEM.out _ W) ?_
            refine (mixed_any w2 va [17, 19] (by decide) (by decide) w_e_2 Vva_e_2.out).mono ?_
            rintro e w_e_2_3 ⟨rfl, hx⟩
            have K_e_2_3 := Lib.hid (Agg.belowThen K_e_2.out (Nat.le_refl _) hx)
            have G_e_2_3 := Lib.hid (G_e_2.out.below hx)
            clear hx
            have S_e_2_3 := Lib.hid (⟨_, G_e_2_3.out, Hw7.out, Hw16.out⟩ : SprS g2 k w7 w16 w_e_2_3)
            refine ⟨_, rfl, S_e_2_3.out, ?_⟩
            try simp only [Act.put, List.setIfInBounds_toArray, List.set_cons_succ, List.set_cons_zero]
            refine Agg.held_take 6 (vW (mixP w2 [17, 19] ^^^ (w2 >>> 10))) rfl (by kernel_rfl) (fun _ _ _ h => h) rfl (fun W _ => exec_xorW rfl rfl rfl) (by assumption) ?_
            try simp only [Act.put, List.setIfInBounds_toArray, List.set_cons_succ, List.set_cons_zero]
            refine Agg.held_take 11 (vW ((mixP w2 [17, 19] ^^^ (w2 >>> 10)) + w7)) rfl (by kernel_rfl) (fun _ _ _ h => h) rfl (fun W _ => exec_addW rfl rfl rfl) (by assumption) ?_
            try simp only [Act.put, List.setIfInBounds_toArray, List.set_cons_succ, List.set_cons_zero]
            refine Agg.held_ready [13] (by kernel_rfl) (by simp) ?_
            refine Agg.held_cons rfl ?_ ?_
            · refine Agg.step_slice2 (E := EI) rfl _ _ rfl 7 18 rfl rfl ?_
              intro vb w_e_2_3_13 hs hx
              have K_e_2_3_13 := Lib.hid (Agg.belowThen K_e_2_3.out (Nat.le_refl _) hx)
              have G_e_2_3_13 := Lib.hid (G_e_2_3.out.below hx)
              have Vvb_e_2_3_13 := Lib.hid hs
              clear hs hx
              have S_e_2_3_13 := Lib.hid (⟨_, G_e_2_3_13.out, Hw7.out, Hw16.out⟩ : SprS g2 k w7 w16 w_e_2_3_13)
              refine ⟨S_e_2_3_13.out, ?_⟩
              try simp only [Act.put, List.setIfInBounds_toArray, List.set_cons_succ, List.set_cons_zero]
              refine Agg.held_ready [14] (by kernel_rfl) (by simp) ?_
              refine Agg.held_cons rfl ?_ ?_
              · refine Agg.step_call rfl 84 _ _ rfl #[vW w15, vb] (by simp only [List.map_toArray, List.map_cons, List.map_nil]; rfl) (fun W => HEM.out _ W) ?_
                refine (mixed_any w15 vb [7, 18] (by decide) (by decide) w_e_2_3_13 Vvb_e_2_3_13.out).mono ?_
                rintro e w_e_2_3_13_14 ⟨rfl, hx⟩
                have K_e_2_3_13_14 := Lib.hid (Agg.belowThen K_e_2_3_13.out (Nat.le_refl _) hx)
                have G_e_2_3_13_14 := Lib.hid (G_e_2_3_13.out.below hx)
                clear hx
                have S_e_2_3_13_14 := Lib.hid (⟨_, G_e_2_3_13_14.out, Hw7.out, Hw16.out⟩ : SprS g2 k w7 w16 w_e_2_3_13_14)
                refine ⟨_, rfl, S_e_2_3_13_14.out, ?_⟩
                try simp only [Act.put, List.setIfInBounds_toArray, List.set_cons_succ, List.set_cons_zero]
                refine Agg.held_take 17 (vW (mixP w15 [7, 18] ^^^ (w15 >>> 3))) rfl (by kernel_rfl) (fun _ _ _ h => h) rfl (fun W _ => exec_xorW rfl rfl rfl) (by assumption) ?_
                try simp only [Act.put, List.setIfInBounds_toArray, List.set_cons_succ, List.set_cons_zero]
                refine Agg.held_take 18 (vW ((mixP w2 [17, 19] ^^^ (w2 >>> 10)) + w7 + (mixP w15 [7, 18] ^^^ (w15 >>> 3)))) rfl (by kernel_rfl) (fun _ _ _ h => h) rfl (fun W _ => exec_addW rfl rfl rfl) (by assumption) ?_
                try simp only [Act.put, List.setIfInBounds_toArray, List.set_cons_succ, List.set_cons_zero]
                refine Agg.held_take 23 (vW (nextW (words bs k))) rfl (by kernel_rfl) (fun _ _ _ h => h) rfl (fun W _ => by rw [← HNW.out]; exact exec_addW rfl rfl rfl) (by assumption) ?_
                try simp only [Act.put, List.setIfInBounds_toArray, List.set_cons_succ, List.set_cons_zero]
                refine Agg.held_take 24 (.pointer (some ⟨g2, k, none⟩)) rfl (by kernel_rfl) (fun _ _ _ h => h) rfl (fun W _ => exec_idx rfl rfl rfl (HIG.out k (by omega) W)) (by assumption) ?_
                try simp only [Act.put, List.setIfInBounds_toArray, List.set_cons_succ, List.set_cons_zero]
                refine Agg.held_ready [25] (by kernel_rfl) (by simp) ?_
                refine Agg.held_cons rfl ?_ ?_
                · obtain ⟨w_e_2_3_13_14_25, hrun, hb, ho⟩ := Blk.run_one (P := Try.prog) (ty := 137) G_e_2_3_13_14.out k (by rw [wC_size]; simp [words_length]; omega) (vW (nextW (words bs k))) rfl rfl (by kernel_rfl) (wC (words bs (k + 1) ++ List.replicate (64 - (k + 1)) 0)) (by rw [wC_set, HNX.out])
                  refine Agg.step_store rfl rfl 137 _ _ rfl (.pointer (some ⟨g2, k, none⟩)) (vW (nextW (words bs k))) rfl rfl hrun ?_
                  have K_e_2_3_13_14_25 := Lib.hid (K_e_2_3_13_14.out.trans (ho.below (B := w.heap.size) K_e_2_3_13_14.out.size (fun i hi => by subst hi; exact HG2.out)))
                  have B_e_2_3_13_14_25 := Lib.hid hb
                  have S_e_2_3_13_14_25 := Lib.hid (⟨_, hb, by rw [← HNX.out, List.getElem?_set_ne (by omega)]; exact Hw7.out, by rw [← HNX.out, List.getElem?_set_ne (by omega)]; exact Hw16.out⟩ : SprS g2 k w7 w16 w_e_2_3_13_14_25)
                  clear hrun hb ho
                  refine ⟨S_e_2_3_13_14_25.out, ?_⟩
                  try simp only [Act.put, List.setIfInBounds_toArray, List.set_cons_succ, List.set_cons_zero]
                  refine Agg.held_end (by kernel_rfl) ?_
                  go_wp2_with fail
                  go_roundw
                  case rel => exact ⟨k + 1, by omega, by go_num, B_e_2_3_13_14_25.out, K_e_2_3_13_14_25.out⟩
                  case measure => simp [intOf]; omega
                exact AllReadyH.nil
              exact AllReadyH.nil
            exact AllReadyH.nil
          refine Agg.held_cons rfl ?_ ?_
          · refine Agg.step_slice2 (E := EI) rfl _ _ rfl 7 18 rfl rfl ?_
            intro vb w_e_2_13 hs hx
            have K_e_2_13 := Lib.hid (Agg.belowThen K_e_2.out (Nat.le_refl _) hx)
            have G_e_2_13 := Lib.hid (G_e_2.out.below hx)
            have Vva_e_2_13 := Lib.hid (Vva_e_2.out.below hx)
            have Vvb_e_2_13 := Lib.hid hs
            clear hs hx
            have S_e_2_13 := Lib.hid (⟨_, G_e_2_13.out, Hw7.out, Hw16.out⟩ : SprS g2 k w7 w16 w_e_2_13)
            refine ⟨S_e_2_13.out, ?_⟩
            try simp only [Act.put, List.setIfInBounds_toArray, List.set_cons_succ, List.set_cons_zero]
            refine Agg.held_ready [3] (by kernel_rfl) (by simp) ?_
            refine Agg.held_cons rfl ?_ ?_
            · refine Agg.step_call rfl 84 _ _ rfl #[vW w2, va] (by simp only [List.map_toArray, List.map_cons, List.map_nil]; rfl) (fun W => HEM.out _ W) ?_
              refine (mixed_any w2 va [17, 19] (by decide) (by decide) w_e_2_13 Vva_e_2_13.out).mono ?_
              rintro e w_e_2_13_3 ⟨rfl, hx⟩
              have K_e_2_13_3 := Lib.hid (Agg.belowThen K_e_2_13.out (Nat.le_refl _) hx)
              have G_e_2_13_3 := Lib.hid (G_e_2_13.out.below hx)
              have Vvb_e_2_13_3 := Lib.hid (Vvb_e_2_13.out.below hx)
              clear hx
              have S_e_2_13_3 := Lib.hid (⟨_, G_e_2_13_3.out, Hw7.out, Hw16.out⟩ : SprS g2 k w7 w16 w_e_2_13_3)
              refine ⟨_, rfl, S_e_2_13_3.out, ?_⟩
              try simp only [Act.put, List.setIfInBounds_toArray, List.set_cons_succ, List.set_cons_zero]
              refine Agg.held_take 6 (vW (mixP w2 [17, 19] ^^^ (w2 >>> 10))) rfl (by kernel_rfl) (fun _ _ _ h => h) rfl (fun W _ => exec_xorW rfl rfl rfl) (by assumption) ?_
              try simp only [Act.put, List.setIfInBounds_toArray, List.set_cons_succ, List.set_cons_zero]
              refine Agg.held_take 11 (vW ((mixP w2 [17, 19] ^^^ (w2 >>> 10)) + w7)) rfl (by kernel_rfl) (fun _ _ _ h => h) rfl (fun W _ => exec_addW rfl rfl rfl) (by assumption) ?_
              try simp only [Act.put, List.setIfInBounds_toArray, List.set_cons_succ, List.set_cons_zero]
              refine Agg.held_ready [14] (by kernel_rfl) (by simp) ?_
              refine Agg.held_cons rfl ?_ ?_
              · refine Agg.step_call rfl 84 _ _ rfl #[vW w15, vb] (by simp only [List.map_toArray, List.map_cons, List.map_nil]; rfl) (fun W => HEM.out _ W) ?_
                refine (mixed_any w15 vb [7, 18] (by decide) (by decide) w_e_2_13_3 Vvb_e_2_13_3.out).mono ?_
                rintro e w_e_2_13_3_14 ⟨rfl, hx⟩
                have K_e_2_13_3_14 := Lib.hid (Agg.belowThen K_e_2_13_3.out (Nat.le_refl _) hx)
                have G_e_2_13_3_14 := Lib.hid (G_e_2_13_3.out.below hx)
                clear hx
                have S_e_2_13_3_14 := Lib.hid (⟨_, G_e_2_13_3_14.out, Hw7.out, Hw16.out⟩ : SprS g2 k w7 w16 w_e_2_13_3_14)
                refine ⟨_, rfl, S_e_2_13_3_14.out, ?_⟩
                try simp only [Act.put, List.setIfInBounds_toArray, List.set_cons_succ, List.set_cons_zero]
                refine Agg.held_take 17 (vW (mixP w15 [7, 18] ^^^ (w15 >>> 3))) rfl (by kernel_rfl) (fun _ _ _ h => h) rfl (fun W _ => exec_xorW rfl rfl rfl) (by assumption) ?_
                try simp only [Act.put, List.setIfInBounds_toArray, List.set_cons_succ, List.set_cons_zero]
                refine Agg.held_take 18 (vW ((mixP w2 [17, 19] ^^^ (w2 >>> 10)) + w7 + (mixP w15 [7, 18] ^^^ (w15 >>> 3)))) rfl (by kernel_rfl) (fun _ _ _ h => h) rfl (fun W _ => exec_addW rfl rfl rfl) (by assumption) ?_
                try simp only [Act.put, List.setIfInBounds_toArray, List.set_cons_succ, List.set_cons_zero]
                refine Agg.held_take 23 (vW (nextW (words bs k))) rfl (by kernel_rfl) (fun _ _ _ h => h) rfl (fun W _ => by rw [← HNW.out]; exact exec_addW rfl rfl rfl) (by assumption) ?_
                try simp only [Act.put, List.setIfInBounds_toArray, List.set_cons_succ, List.set_cons_zero]
                refine Agg.held_take 24 (.pointer (some ⟨g2, k, none⟩)) rfl (by kernel_rfl) (fun _ _ _ h => h) rfl (fun W _ => exec_idx rfl rfl rfl (HIG.out k (by omega) W)) (by assumption) ?_
                try simp only [Act.put, List.setIfInBounds_toArray, List.set_cons_succ, List.set_cons_zero]
                refine Agg.held_ready [25] (by kernel_rfl) (by simp) ?_
                refine Agg.held_cons rfl ?_ ?_
                · obtain ⟨w_e_2_13_3_14_25, hrun, hb, ho⟩ := Blk.run_one (P := Try.prog) (ty := 137) G_e_2_13_3_14.out k (by rw [wC_size]; simp [words_length]; omega) (vW (nextW (words bs k))) rfl rfl (by kernel_rfl) (wC (words bs (k + 1) ++ List.replicate (64 - (k + 1)) 0)) (by rw [wC_set, HNX.out])
                  refine Agg.step_store rfl rfl 137 _ _ rfl (.pointer (some ⟨g2, k, none⟩)) (vW (nextW (words bs k))) rfl rfl hrun ?_
                  have K_e_2_13_3_14_25 := Lib.hid (K_e_2_13_3_14.out.trans (ho.below (B := w.heap.size) K_e_2_13_3_14.out.size (fun i hi => by subst hi; exact HG2.out)))
                  have B_e_2_13_3_14_25 := Lib.hid hb
                  have S_e_2_13_3_14_25 := Lib.hid (⟨_, hb, by rw [← HNX.out, List.getElem?_set_ne (by omega)]; exact Hw7.out, by rw [← HNX.out, List.getElem?_set_ne (by omega)]; exact Hw16.out⟩ : SprS g2 k w7 w16 w_e_2_13_3_14_25)
                  clear hrun hb ho
                  refine ⟨S_e_2_13_3_14_25.out, ?_⟩
                  try simp only [Act.put, List.setIfInBounds_toArray, List.set_cons_succ, List.set_cons_zero]
                  refine Agg.held_end (by kernel_rfl) ?_
                  go_wp2_with fail
                  go_roundw
                  case rel => exact ⟨k + 1, by omega, by go_num, B_e_2_13_3_14_25.out, K_e_2_13_3_14_25.out⟩
                  case measure => simp [intOf]; omega
                exact AllReadyH.nil
              exact AllReadyH.nil
            exact AllReadyH.nil
          exact AllReadyH.nil
        refine Agg.held_cons rfl ?_ ?_
        · refine Agg.step_slice2 (E := EI) rfl _ _ rfl 7 18 rfl rfl ?_
          intro vb w_e_13 hs hx
          have K_e_13 := Lib.hid (Agg.belowThen K_e.out (Nat.le_refl _) hx)
          have G_e_13 := Lib.hid (G_e.out.below hx)
          have Vvb_e_13 := Lib.hid hs
          clear hs hx
          have S_e_13 := Lib.hid (⟨_, G_e_13.out, Hw7.out, Hw16.out⟩ : SprS g2 k w7 w16 w_e_13)
          refine ⟨S_e_13.out, ?_⟩
          try simp only [Act.put, List.setIfInBounds_toArray, List.set_cons_succ, List.set_cons_zero]
          refine Agg.held_ready [2] (by kernel_rfl) (by simp) ?_
          refine Agg.held_cons rfl ?_ ?_
          · refine Agg.step_slice2 (E := EI) rfl _ _ rfl 17 19 rfl rfl ?_
            intro va w_e_13_2 hs hx
            have K_e_13_2 := Lib.hid (Agg.belowThen K_e_13.out (Nat.le_refl _) hx)
            have G_e_13_2 := Lib.hid (G_e_13.out.below hx)
            have Vva_e_13_2 := Lib.hid hs
            have Vvb_e_13_2 := Lib.hid (Vvb_e_13.out.below hx)
            clear hs hx
            have S_e_13_2 := Lib.hid (⟨_, G_e_13_2.out, Hw7.out, Hw16.out⟩ : SprS g2 k w7 w16 w_e_13_2)
            refine ⟨S_e_13_2.out, ?_⟩
            try simp only [Act.put, List.setIfInBounds_toArray, List.set_cons_succ, List.set_cons_zero]
            refine Agg.held_ready [3] (by kernel_rfl) (by simp) ?_
            refine Agg.held_cons rfl ?_ ?_
            · refine Agg.step_call rfl 84 _ _ rfl #[vW w2, va] (by simp only [List.map_toArray, List.map_cons, List.map_nil]; rfl) (fun W => HEM.out _ W) ?_
              refine (mixed_any w2 va [17, 19] (by decide) (by decide) w_e_13_2 Vva_e_13_2.out).mono ?_
              rintro e w_e_13_2_3 ⟨rfl, hx⟩
              have K_e_13_2_3 := Lib.hid (Agg.belowThen K_e_13_2.out (Nat.le_refl _) hx)
              have G_e_13_2_3 := Lib.hid (G_e_13_2.out.below hx)
              have Vvb_e_13_2_3 := Lib.hid (Vvb_e_13_2.out.below hx)
              clear hx
              have S_e_13_2_3 := Lib.hid (⟨_, G_e_13_2_3.out, Hw7.out, Hw16.out⟩ : SprS g2 k w7 w16 w_e_13_2_3)
              refine ⟨_, rfl, S_e_13_2_3.out, ?_⟩
              try simp only [Act.put, List.setIfInBounds_toArray, List.set_cons_succ, List.set_cons_zero]
              refine Agg.held_take 6 (vW (mixP w2 [17, 19] ^^^ (w2 >>> 10))) rfl (by kernel_rfl) (fun _ _ _ h => h) rfl (fun W _ => exec_xorW rfl rfl rfl) (by assumption) ?_
              try simp only [Act.put, List.setIfInBounds_toArray, List.set_cons_succ, List.set_cons_zero]
              refine Agg.held_take 11 (vW ((mixP w2 [17, 19] ^^^ (w2 >>> 10)) + w7)) rfl (by kernel_rfl) (fun _ _ _ h => h) rfl (fun W _ => exec_addW rfl rfl rfl) (by assumption) ?_
              try simp only [Act.put, List.setIfInBounds_toArray, List.set_cons_succ, List.set_cons_zero]
              refine Agg.held_ready [14] (by kernel_rfl) (by simp) ?_
              refine Agg.held_cons rfl ?_ ?_
              · refine Agg.step_call rfl 84 _ _ rfl #[vW w15, vb] (by simp only [List.map_toArray, List.map_cons, List.map_nil]; rfl) (fun W => HEM.out _ W) ?_
                refine (mixed_any w15 vb [7, 18] (by decide) (by decide) w_e_13_2_3 Vvb_e_13_2_3.out).mono ?_
                rintro e w_e_13_2_3_14 ⟨rfl, hx⟩
                have K_e_13_2_3_14 := Lib.hid (Agg.belowThen K_e_13_2_3.out (Nat.le_refl _) hx)
                have G_e_13_2_3_14 := Lib.hid (G_e_13_2_3.out.below hx)
                clear hx
                have S_e_13_2_3_14 := Lib.hid (⟨_, G_e_13_2_3_14.out, Hw7.out, Hw16.out⟩ : SprS g2 k w7 w16 w_e_13_2_3_14)
                refine ⟨_, rfl, S_e_13_2_3_14.out, ?_⟩
                try simp only [Act.put, List.setIfInBounds_toArray, List.set_cons_succ, List.set_cons_zero]
                refine Agg.held_take 17 (vW (mixP w15 [7, 18] ^^^ (w15 >>> 3))) rfl (by kernel_rfl) (fun _ _ _ h => h) rfl (fun W _ => exec_xorW rfl rfl rfl) (by assumption) ?_
                try simp only [Act.put, List.setIfInBounds_toArray, List.set_cons_succ, List.set_cons_zero]
                refine Agg.held_take 18 (vW ((mixP w2 [17, 19] ^^^ (w2 >>> 10)) + w7 + (mixP w15 [7, 18] ^^^ (w15 >>> 3)))) rfl (by kernel_rfl) (fun _ _ _ h => h) rfl (fun W _ => exec_addW rfl rfl rfl) (by assumption) ?_
                try simp only [Act.put, List.setIfInBounds_toArray, List.set_cons_succ, List.set_cons_zero]
                refine Agg.held_take 23 (vW (nextW (words bs k))) rfl (by kernel_rfl) (fun _ _ _ h => h) rfl (fun W _ => by rw [← HNW.out]; exact exec_addW rfl rfl rfl) (by assumption) ?_
                try simp only [Act.put, List.setIfInBounds_toArray, List.set_cons_succ, List.set_cons_zero]
                refine Agg.held_take 24 (.pointer (some ⟨g2, k, none⟩)) rfl (by kernel_rfl) (fun _ _ _ h => h) rfl (fun W _ => exec_idx rfl rfl rfl (HIG.out k (by omega) W)) (by assumption) ?_
                try simp only [Act.put, List.setIfInBounds_toArray, List.set_cons_succ, List.set_cons_zero]
                refine Agg.held_ready [25] (by kernel_rfl) (by simp) ?_
                refine Agg.held_cons rfl ?_ ?_
                · obtain ⟨w_e_13_2_3_14_25, hrun, hb, ho⟩ := Blk.run_one (P := Try.prog) (ty := 137) G_e_13_2_3_14.out k (by rw [wC_size]; simp [words_length]; omega) (vW (nextW (words bs k))) rfl rfl (by kernel_rfl) (wC (words bs (k + 1) ++ List.replicate (64 - (k + 1)) 0)) (by rw [wC_set, HNX.out])
                  refine Agg.step_store rfl rfl 137 _ _ rfl (.pointer (some ⟨g2, k, none⟩)) (vW (nextW (words bs k))) rfl rfl hrun ?_
                  have K_e_13_2_3_14_25 := Lib.hid (K_e_13_2_3_14.out.trans (ho.below (B := w.heap.size) K_e_13_2_3_14.out.size (fun i hi => by subst hi; exact HG2.out)))
                  have B_e_13_2_3_14_25 := Lib.hid hb
                  have S_e_13_2_3_14_25 := Lib.hid (⟨_, hb, by rw [← HNX.out, List.getElem?_set_ne (by omega)]; exact Hw7.out, by rw [← HNX.out, List.getElem?_set_ne (by omega)]; exact Hw16.out⟩ : SprS g2 k w7 w16 w_e_13_2_3_14_25)
                  clear hrun hb ho
                  refine ⟨S_e_13_2_3_14_25.out, ?_⟩
                  try simp only [Act.put, List.setIfInBounds_toArray, List.set_cons_succ, List.set_cons_zero]
                  refine Agg.held_end (by kernel_rfl) ?_
                  go_wp2_with fail
                  go_roundw
                  case rel => exact ⟨k + 1, by omega, by go_num, B_e_13_2_3_14_25.out, K_e_13_2_3_14_25.out⟩
                  case measure => simp [intOf]; omega
                exact AllReadyH.nil
              exact AllReadyH.nil
            exact AllReadyH.nil
          exact AllReadyH.nil
        exact AllReadyH.nil
    · obtain rfl : k = 64 := by omega
      have HB6 := Lib.hid (show Blk wr1 g2 148 (wC (words bs 64)) by have := HB.out; rwa [show List.replicate (64 - 64) (0 : W) = [] from rfl, List.append_nil] at this)
      have HLD := Lib.hid (HB6.out.loads (P := Try.prog) Try.underlying148 rfl (w64_info _ (words_length _ _)))
      go_wp2_with (first | (with_reducible refine wpList_loadL HLD.out rfl _ rfl rfl ?_) | ((with_reducible refine wpList_put rfl rfl 148 _ _ rfl g2 (wC (words bs 64)) (wC (words bs 64)) rfl rfl HB6.out (w64_info _ (words_length _ _)) rfl (wC_one _) ?_); intro w7 hb7 hx7 _ _; have HB7 := Lib.hid hb7; have HX7 := Lib.hid (HW.out.trans (hx7.mono HG2.out)); clear hb7 hx7))
      exact post_row rfl rfl HB7.out Try.underlying148 rfl (w64_info _ (words_length _ _)) rfl ⟨rfl, HX7.out⟩
end Go.Proofs.Ytgekpghjlhcpkaa
