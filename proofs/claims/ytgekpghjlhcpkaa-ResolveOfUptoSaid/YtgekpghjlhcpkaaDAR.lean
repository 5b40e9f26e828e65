/- A load by its run; a block behind changes elsewhere. (Several texts in one.) -/
import Derived.Test.YtgekpghjlhcpkaaDAP
import Derived.Test.YtgekpghjlhcpkaaDAE
import Derived.Test.YtgekpghjlhcpkaaDAM
/-! copy of bytes into the middle of a block; of one-cell rows in general. -/
namespace Go.Agg
open Go.RowKit
theorem toArray_size' (l : List Value) : l.toArray.size = l.length := by simp
/-- copy of cells into the middle of a block -/
theorem run_copyMid {P : Program} {w : World} (dT sT ty elem : TypeId) (g o n dc : Nat) (a : Addr) (m sc : Nat) (cur : List Value) (t : TypeId) (cs : List Value)
    (hu : P.underlying dT = some (.slice elem)) (hs : (P.info? elem).map (·.size) = some 1) (hb : Blk w g t cur.toArray) (hn : cs.length = Nat.min m n) (hsrc : ∀ j v, cs[j]? = some v → w.cell? (a.add j) = some v)
    (hfit : o + cs.length ≤ cur.length) (h1 : ∀ v ∈ cs, v.oneCell' = true) :
    ∃ w', (Builtin.copy_ #[dT, sT] ty #[.slice (some ⟨g, o, none⟩) n dc, .slice (some a) m sc]).run P w = .ok (goInt cs.length) w' ∧ Blk w' g t (cur.take o ++ cs ++ cur.drop (o + cs.length)).toArray ∧ Only (· = g) w w' ∧ w'.heap.size = w.heap.size := by
  have hrun := run_copy_row (P := P) w dT sT ty elem g o n dc a m sc cur.toArray t cs hu hs hb hn hsrc (by simpa using hfit) h1
  refine ⟨_, hrun, ?_, ⟨rfl, rfl, rfl, by simp [World.setRow], fun k _ hk => setRow_other w g k _ hk⟩, by simp [World.setRow]⟩
  exact setRow_heap w g cur.toArray _ t (0, 0) hb
end Go.Agg
namespace Go.Proofs.Ytgekpghjlhcpkaa
open Go.RowKit Pl Go.Agg
theorem run_copyAt {w : World} {g o n dc : Nat} {t : TypeId} {cur : List Value} {u : Value} {l : List UInt8} (ty : TypeId) (hu : SliceOf EB w u l) (hb : Blk w g t cur.toArray) (ho : o + n ≤ cur.length) :
    ∃ w', (Builtin.copy_ #[23, 23] ty #[.slice (some ⟨g, o, none⟩) n dc, u]).run Try.prog w = .ok (.int .i64 ((min l.length n : Nat) : Int)) w' ∧ Blk w' g t (cur.take o ++ Lib.byteCells (l.take n) ++ cur.drop (o + min l.length n)).toArray ∧ Only (· = g) w w' ∧ w'.heap.size = w.heap.size := by
  have hund : Try.prog.underlying 23 = some (.slice 5) := by kernel_rfl
  have hsz : (Try.prog.info? 5).map (·.size) = some 1 := by kernel_rfl
  have hc : (Lib.byteCells (l.take n)).length = min l.length n := by simp [Lib.byteCells, Nat.min_comm]
  by_cases h0 : l.length = 0
  · obtain rfl : l = [] := List.length_eq_zero_iff.1 h0
    obtain ⟨p, c, hf⟩ := hu.form
    subst hf
    refine ⟨w, ?_, ?_, Only.refl _ _, rfl⟩
    · have := run_copy_none (P := Try.prog) w 23 23 ty 5 (some ⟨g, o, none⟩) p n dc 0 c hund hsz (by simp)
      simpa [goInt] using this
    · simpa [Lib.byteCells] using hb
  · rcases hu with ⟨_, _, _, h1⟩ | ⟨q, c, rfl, hq, hcell⟩
    · exact absurd (by simp [h1]) h0
    · rw [flat_bytes] at hcell
      obtain ⟨w', h1, h2, h3, h4⟩ := run_copyMid (P := Try.prog) 23 23 ty 5 g o n dc q l.length c cur t (Lib.byteCells (l.take n)) hund hsz hb (by rw [hc])
        (fun j v hj => hcell j v (by
          simp only [Lib.byteCells, List.getElem?_map, List.getElem?_take] at hj ⊢
          split at hj
          · exact hj
          · simp at hj)) (by rw [hc]; omega)
        (fun v hv => by
          simp only [Lib.byteCells, List.mem_map] at hv
          obtain ⟨b, _, rfl⟩ := hv
          rfl)
      rw [hc] at h1 h2
      exact ⟨w', h1, h2, h3, h4⟩
end Go.Proofs.Ytgekpghjlhcpkaa
/-! hash.mixed, rounds, first; bits.RotateLeft32. -/
namespace Go.Proofs.Ytgekpghjlhcpkaa
open Go.RowKit Pl Go.Agg Go.Sha
section
variable {o : Oper} {a : Act} {w : World} {x y : Operand}
theorem exec_cvU (k : Nat) (h1 : 1 ≤ k) (h2 : k ≤ 31) (ho : o.op = .convert 3 119 x) (hx : a.eval x = .int .i64 (-(k : Int))) : (execOp a.eval o).run Try.prog w = .ok (.value (.int .u64 (18446744073709551616 - (k : Int)))) w := by
  have hc : (convert 3 119 (.int .i64 (-(k : Int)))).run Try.prog w = .ok (.int .u64 (18446744073709551616 - (k : Int))) w := by
    simp [convert]
    simp [Conv.intToInt, IntKind.wrap, IntKind.signed, IntKind.bits]
    omega
  simp [execOp, ho, hx, hc]
theorem andU31 : ∀ k : Fin 32, 1 ≤ k.1 → IntKind.u64.wrap (((BitVec.ofInt 64 (18446744073709551616 - (k.1 : Int)) &&& BitVec.ofInt 64 31).toNat : Nat) : Int) = ((32 - k.1 : Nat) : Int) := by decide
theorem exec_andU {t u : TypeId} (k : Nat) (h1 : 1 ≤ k) (h2 : k ≤ 31) (ho : o.op = .binOp .and t x y u) (hx : a.eval x = .int .u64 (18446744073709551616 - (k : Int))) (hy : a.eval y = .int .u64 31) : (execOp a.eval o).run Try.prog w = .ok (.value (.int .u64 ((32 - k : Nat) : Int))) w := by
  have hc : (binOp .and t (.int .u64 (18446744073709551616 - (k : Int))) (.int .u64 31)).run Try.prog w = .ok (.int .u64 ((32 - k : Nat) : Int)) w := by
    simp only [binOp, Op.intBits]
    exact congrArg (fun n => Result.ok (Value.int .u64 n) w) (andU31 ⟨k, by omega⟩ h1)
  simp only [execOp, ho, hx, hy]
  simp [eqGuard, hc]
theorem exec_subU {t u : TypeId} (k : Nat) (h1 : 1 ≤ k) (h2 : k ≤ 31) (ho : o.op = .binOp .sub t x y u) (hx : a.eval x = .int .u64 32) (hy : a.eval y = .int .u64 ((32 - k : Nat) : Int)) : (execOp a.eval o).run Try.prog w = .ok (.value (.int .u64 (k : Int))) w := by
  have hc : (binOp .sub t (.int .u64 32) (.int .u64 ((32 - k : Nat) : Int))).run Try.prog w = .ok (.int .u64 (k : Int)) w := by
    simp only [binOp, Op.intArith]
    refine congrArg (fun n => Result.ok (Value.int .u64 n) w) ?_
    simp only [IntKind.wrap, IntKind.signed, IntKind.bits, Bool.false_and, Bool.false_eq_true, if_false]
    omega
  simp only [execOp, ho, hx, hy]
  simp [eqGuard, hc]
theorem exec_cvW {c : UInt8} (ho : o.op = .convert 5 137 x) (hx : a.eval x = .int .u8 (c.toNat : Int)) : (execOp a.eval o).run Try.prog w = .ok (.value (vW (wB c))) w := by
  have h := c.toNat_lt
  have hc : (convert 5 137 (.int .u8 (c.toNat : Int))).run Try.prog w = .ok (vW (wB c)) w := by
    rw [vW, wB_toNat]
    simp [convert]
    simp [Conv.intToInt, IntKind.wrap, IntKind.signed, IntKind.bits]
    omega
  simp [execOp, ho, hx, hc]
end
set_option maxRecDepth 100000 in
set_option maxHeartbeats 1000000 in
theorem rotl_any (x : W) (k : Nat) (h1 : 1 ≤ k) (h2 : k ≤ 31) (w : World) : Calls Try.prog 85 #[vW x, .int .i64 (-(k : Int))] w fun e w' => e = .returned (vW (rot x k)) ∧ Below w.heap.size w w' := by
  have HR := Lib.hid (show (x <<< (32 - k)) ||| (x >>> k) = rot x k by rw [rot, BitVec.or_comm])
  have H1 := Lib.hid (show 32 - k < 32 by omega)
  have H2 := Lib.hid (show k < 32 by omega)
  go_enter Try.func85, Try.ntmps85
  go_wp2_with (first | (refine wpList_valw rfl (exec_cvU k h1 h2 rfl rfl) ?_) | (refine wpList_valw rfl (exec_andU k h1 h2 rfl rfl rfl) ?_) | (refine wpList_valw rfl (exec_subU k h1 h2 rfl rfl rfl) ?_) | (refine wpList_valw rfl (exec_shlW (x := x) (32 - k) H1.out rfl rfl rfl) ?_) | (refine wpList_valw rfl (exec_shrW (x := x) k H2.out rfl rfl rfl) ?_) | (refine wpList_valw rfl (exec_orW (x := x <<< (32 - k)) (y := x >>> k) rfl rfl rfl) ?_; rw [HR.out]))
  go_ret
  exact ⟨rfl, Below.refl _ _⟩
theorem mix_take (x : W) {ks : List Nat} {j k : Nat} (h : ks[j]? = some k) : mixP x (ks.take (j + 1)) = mixP x (ks.take j) ^^^ rot x k := by rw [List.take_add_one, h]; exact mixP_snoc _ _ _
set_option maxRecDepth 100000 in
set_option maxHeartbeats 2000000 in
theorem mixed_any (x : W) (v : Value) (ks : List Nat) (hk : ∀ k ∈ ks, 1 ≤ k ∧ k ≤ 31) (hn : ks.length ≤ 1000) (w : World) (hs : SliceOf EI w v ks) : Calls Try.prog 84 #[vW x, v] w fun e w' => e = .returned (vW (mixP x ks)) ∧ Below w.heap.size w w' := by
  have HS := Lib.hid hs
  have HK := Lib.hid hk
  have hlv := fun W => ints_len hs W
  have HZ := Lib.hid (show Value.int .u32 0 = vW (mixP x (ks.take 0)) from rfl)
  clear hs hk
  go_enter Try.func84, Try.ntmps84
  go_wp2_with fail
  go_loopw [4, 9] (fun o i wr => ∃ j : Nat, j ≤ ks.length ∧ i = .int .i64 (j : Int) ∧ o = vW (mixP x (ks.take j)) ∧ Below w.heap.size w wr) (fun _ i _ => ks.length - (intOf i).toNat)
  case atStart => exact ⟨0, by omega, rfl, HZ.out, Below.refl _ _⟩
  case round =>
    obtain ⟨wr1, rfl⟩ : ∃ y : World, y = wr := ⟨_, rfl⟩
    obtain ⟨j, hj, rfl, rfl, hw⟩ := hrel
    have HW := Lib.hid hw
    clear hw
    by_cases hlt : j < ks.length
    · have hd : decide ((j : Int) < (ks.length : Int)) = true := by simp; omega
      obtain ⟨k, hkj⟩ : ∃ k, ks[j]? = some k := ⟨_, List.getElem?_eq_getElem hlt⟩
      obtain ⟨q, hadr, hq⟩ := int_at (SliceOf.below HS.out HW.out) j k hkj
      have HQ := Lib.hid hq
      have HT := Lib.hid (mix_take x hkj)
      obtain ⟨h1, h2⟩ := HK.out k (List.mem_of_getElem? hkj)
      clear hq hkj
      obtain ⟨m, hm⟩ : ∃ m, mixP x (ks.take j) = m := ⟨_, rfl⟩
      rw [hm] at HT ⊢
      clear hm
      go_wp2_with (first | (with_reducible refine wpList_loadL HQ.out rfl _ rfl rfl ?_))
      refine (rotl_any x k h1 h2 wr1).mono ?_
      rintro e w2 ⟨rfl, hx2⟩
      have HW2 := Lib.hid (Agg.belowThen HW.out (Nat.le_refl _) hx2)
      clear hx2
      go_wp2_with (first | (refine wpList_valw rfl (exec_xorW (x := m) (y := rot x k) rfl rfl rfl) ?_))
      go_roundw
      case rel => exact ⟨j + 1, by omega, by go_num, by rw [HT.out], HW2.out⟩
      case measure => simp [intOf]; omega
    · obtain rfl : j = ks.length := by omega
      rw [List.take_length]
      go_wp2_with fail
      go_ret
      exact ⟨rfl, HW.out⟩
/-- words as cells -/
def wC (l : List W) : Array Value := (l.map vW).toArray
theorem wC_size (l : List W) : (wC l).size = l.length := by simp [wC]
theorem wC_one (l : List W) : (wC l).all (·.oneCell') = true := by
  rw [Array.all_eq_true_iff_forall_mem]
  intro v hv
  simp only [wC, List.mem_toArray, List.mem_map] at hv
  obtain ⟨x, _, rfl⟩ := hv
  rfl
theorem wC_get (l : List W) (i : Nat) (x : W) (h : l[i]? = some x) : (wC l)[i]? = some (vW x) := by simp [wC, h]
theorem wC_set (l : List W) (i : Nat) (x : W) : (wC l).setIfInBounds i (vW x) = wC (l.set i x) := by simp [wC, List.map_set]
theorem w64_zero : (Try.prog.info? 148).map (·.zero) = some (some (.agg (wC (List.replicate 64 0)))) := by kernel_rfl
theorem w64_info (l : List W) (h : l.length = 64) : (Try.prog.info? 148).map (·.size) = some (wC l).size := by rw [wC_size, h]; kernel_rfl
theorem w8_zero : (Try.prog.info? 139).map (·.zero) = some (some (.agg (wC (List.replicate 8 0)))) := by kernel_rfl
theorem w8_info (l : List W) (h : l.length = 8) : (Try.prog.info? 139).map (·.size) = some (wC l).size := by rw [wC_size, h]; kernel_rfl
set_option maxRecDepth 100000 in
set_option maxHeartbeats 2000000 in
theorem rounds_any (w : World) : Calls Try.prog 82 #[] w fun e w' => e = .returned (.agg (wC ks)) ∧ Below w.heap.size w w' := by
  go_enter Try.func82, Try.ntmps82
  go_wp2_with (first | (with_reducible refine wpList_zero rfl 148 rfl (wC (List.replicate 64 0)) w64_zero ?_; intro g1 w1 hb1 hx1 hg1; have HB1 := Lib.hid hb1; have HX1 := Lib.hid hx1; have HG1 := Lib.hid hg1; clear hb1 hx1 hg1) | ((with_reducible refine wpList_put rfl rfl 148 _ _ rfl g1 (wC ks) (wC (List.replicate 64 0)) rfl rfl HB1.out (w64_info _ ks_length) rfl (wC_one _) ?_); intro w2 hb2 hx2 _ _; have HB2 := Lib.hid hb2; have HX2 := Lib.hid (HX1.out.trans (hx2.mono HG1.out)); clear hb2 hx2) | (refine wpList_valw rfl (v := .agg (wC ks)) (by kernel_rfl) ?_))
  exact post_row rfl rfl HB2.out Try.underlying148 rfl (w64_info _ ks_length) rfl ⟨rfl, HX2.out⟩
set_option maxRecDepth 100000 in
set_option maxHeartbeats 2000000 in
theorem first_any (w : World) : Calls Try.prog 77 #[] w fun e w' => e = .returned (.agg (wC Sha.first.list)) ∧ Below w.heap.size w w' := by
  go_enter Try.func77, Try.ntmps77
  go_wp2_with (first | (with_reducible refine wpList_zero rfl 139 rfl (wC (List.replicate 8 0)) w8_zero ?_; intro g1 w1 hb1 hx1 hg1; have HB1 := Lib.hid hb1; have HX1 := Lib.hid hx1; have HG1 := Lib.hid hg1; clear hb1 hx1 hg1) | ((with_reducible refine wpList_put rfl rfl 139 _ _ rfl g1 (wC Sha.first.list) (wC (List.replicate 8 0)) rfl rfl HB1.out (w8_info _ rfl) rfl (wC_one _) ?_); intro w2 hb2 hx2 _ _; have HB2 := Lib.hid hb2; have HX2 := Lib.hid (HX1.out.trans (hx2.mono HG1.out)); clear hb2 hx2) | (refine wpList_valw rfl (v := .agg (wC Sha.first.list)) (by kernel_rfl) ?_))
  exact post_row rfl rfl HB2.out Try.underlying139 rfl (w8_info _ rfl) rfl ⟨rfl, HX2.out⟩
end Go.Proofs.Ytgekpghjlhcpkaa
/-! A load by its run; a block behind changes elsewhere. -/
namespace Go.Agg
open Go.RowKit
theorem exec_loadB {P : Program} {o : Oper} {a : Act} {w : World} {ty : TypeId} {x : Operand} {p v : Value} (ho : o.op = .load ty x) (hx : a.eval x = p) (hrun : (Instr.loadAt ty p).run P w = .ok v w) : (execOp a.eval o).run P w = .ok (.value v) w := by simp [execOp, ho, hx, hrun]
theorem Blk.onlyP {w w' : World} {S : Nat → Prop} {g : Nat} {t : TypeId} {cs : Array Value} (h : Blk w g t cs) (ho : Only S w w') (hS : ¬ S g) : Blk w' g t cs := (ho.block g h.lt hS).trans h
end Go.Agg
