/- Path{h, n} (Several texts in one.) -/
import Derived.Test.YtgekpghjlhcpkaaDAT
import Derived.Test.YtgekpghjlhcpkaaDAL
import Derived.Test.YtgekpghjlhcpkaaDAM
import Derived.Test.YtgekpghjlhcpkaaDAP
import Derived.Shelf.Abstract
import Derived.Test.YtgekpghjlhcpkaaDAI
import Derived.Test.YtgekpghjlhcpkaaDAC
import Derived.Test.YtgekpghjlhcpkaaDAD
import Derived.Test.YtgekpghjlhcpkaaDAA
/-! What hash.end needs: shifts of numbers of 64 bits, bytes out of them, a sponge from world to world. -/
namespace Go.Agg
open Go.RowKit Go.Sha
variable {P : Program}
section
variable {o : Oper} {a : Act} {w : World} {t u : TypeId} {x y : Operand} {m n : Nat}
theorem exec_shlQ (h : m * 8 < 18446744073709551616) (ho : o.op = .binOp .shl t x y u) (hx : a.eval x = .int .u64 (m : Int)) (hy : a.eval y = .int .u64 3) : (execOp a.eval o).run P w = .ok (.value (.int .u64 ((m * 8 : Nat) : Int))) w := by
  have hc : (binOp .shl t (.int .u64 (m : Int)) (.int .u64 3)).run P w = .ok (.int .u64 ((m * 8 : Nat) : Int)) w := by
    simp only [binOp, Op.shift]
    refine congrArg (fun n => Result.ok (Value.int .u64 n) w) ?_
    have e : (m : Int) * 2 ^ (min (3 : Int).toNat IntKind.u64.bits) = ((m * 8 : Nat) : Int) := by
      rw [show min (3 : Int).toNat IntKind.u64.bits = 3 from rfl]
      omega
    rw [e]
    simp only [IntKind.wrap, IntKind.signed, IntKind.bits, Bool.false_and, Bool.false_eq_true, if_false]
    omega
  simp only [execOp, ho, hx, hy]
  simp [eqGuard, hc]
theorem fdiv_pow (m s : Nat) : (m : Int).fdiv (2 ^ s) = ((m / 2 ^ s : Nat) : Int) := by
  have e : ((2 : Int) ^ s) = ((2 ^ s : Nat) : Int) := by push_cast; rfl
  rw [e, Int.fdiv_eq_ediv_of_nonneg _ (Int.natCast_nonneg _)]
  exact (Int.natCast_ediv _ _).symm
theorem exec_shrN {k k' : IntKind} (hn : n ≤ k.bits) (ho : o.op = .binOp .shr t x y u) (hx : a.eval x = .int k (m : Int)) (hy : a.eval y = .int k' (n : Int)) : (execOp a.eval o).run P w = .ok (.value (.int k ((m / 2 ^ n : Nat) : Int))) w := by
  have hc : (binOp .shr t (.int k (m : Int)) (.int k' (n : Int))).run P w = .ok (.int k ((m / 2 ^ n : Nat) : Int)) w := by
    simp only [binOp, Op.shift, if_neg (show ¬ (n : Int) < 0 by omega)]
    refine congrArg (fun n => Result.ok (Value.int k n) w) ?_
    rw [show min (n : Int).toNat k.bits = n by rw [Int.toNat_natCast]; exact Nat.min_eq_left hn]
    exact fdiv_pow m n
  simp only [execOp, ho, hx, hy]
  simp [eqGuard, hc]
theorem and3 : ∀ i : Fin 32, IntKind.i64.wrap (((BitVec.ofInt 64 (i.1 : Int) &&& BitVec.ofInt 64 3).toNat : Nat) : Int) = ((i.1 % 4 : Nat) : Int) := by decide
theorem exec_and3 {i : Nat} (h : i < 32) (ho : o.op = .binOp .and t x y u) (hx : a.eval x = .int .i64 (i : Int)) (hy : a.eval y = .int .i64 3) : (execOp a.eval o).run P w = .ok (.value (.int .i64 ((i % 4 : Nat) : Int))) w := by
  have hc : (binOp .and t (.int .i64 (i : Int)) (.int .i64 3)).run P w = .ok (.int .i64 ((i % 4 : Nat) : Int)) w := by
    simp only [binOp, Op.intBits]
    exact congrArg (fun n => Result.ok (Value.int .i64 n) w) (and3 ⟨i, h⟩)
  simp only [execOp, ho, hx, hy]
  simp [eqGuard, hc]
theorem exec_shl3 (h : m < 1000) (ho : o.op = .binOp .shl t x y u) (hx : a.eval x = .int .i64 (m : Int)) (hy : a.eval y = .int .u64 3) : (execOp a.eval o).run P w = .ok (.value (.int .i64 ((m * 8 : Nat) : Int))) w := by
  have hc : (binOp .shl t (.int .i64 (m : Int)) (.int .u64 3)).run P w = .ok (.int .i64 ((m * 8 : Nat) : Int)) w := by
    simp only [binOp, Op.shift]
    refine congrArg (fun n => Result.ok (Value.int .i64 n) w) ?_
    have e : (m : Int) * 2 ^ (min (3 : Int).toNat IntKind.i64.bits) = ((m * 8 : Nat) : Int) := by
      rw [show min (3 : Int).toNat IntKind.i64.bits = 3 from rfl]
      omega
    rw [e]
    exact wrap_i64N _ (by omega)
  simp only [execOp, ho, hx, hy]
  simp [eqGuard, hc]
end
end Go.Agg
namespace Go.Proofs.Ytgekpghjlhcpkaa
open Go.RowKit Pl Go.Agg Go.Sha
section
variable {o : Oper} {a : Act} {w : World} {x : Operand} {n : Nat}
theorem exec_cvQB (ho : o.op = .convert 117 5 x) (hx : a.eval x = .int .u64 (n : Int)) : (execOp a.eval o).run Try.prog w = .ok (.value (.int .u8 ((UInt8.ofNat n).toNat : Int))) w := by
  have h : ((UInt8.ofNat n).toNat : Int) = (n : Int) % 256 := by rw [UInt8.toNat_ofNat']; omega
  rw [h]
  have hc : (convert 117 5 (.int .u64 (n : Int))).run Try.prog w = .ok (.int .u8 ((n : Int) % 256)) w := by
    simp [convert]
    simp [Conv.intToInt, IntKind.wrap, IntKind.signed, IntKind.bits]
  simp [execOp, ho, hx, hc]
theorem exec_cvWB {y : W} (ho : o.op = .convert 137 5 x) (hx : a.eval x = vW y) : (execOp a.eval o).run Try.prog w = .ok (.value (.int .u8 ((UInt8.ofNat y.toNat).toNat : Int))) w := by
  have h : ((UInt8.ofNat y.toNat).toNat : Int) = (y.toNat : Int) % 256 := by rw [UInt8.toNat_ofNat']; omega
  rw [h]
  have hc : (convert 137 5 (vW y)).run Try.prog w = .ok (.int .u8 ((y.toNat : Int) % 256)) w := by
    simp [convert, vW]
    simp [Conv.intToInt, IntKind.wrap, IntKind.signed, IntKind.bits]
  simp [execOp, ho, hx, hc]
end
section
variable {g : Nat} {w w' : World} {l : List UInt8}
theorem SpV.lt (h : SpV g w l) : g < w.heap.size := by obtain ⟨r, _, _, hb⟩ := h; exact hb.lt
theorem SpV.below (h : SpV g w l) (hb : Below w.heap.size w w') : SpV g w' l := by obtain ⟨r, h1, h2, h3⟩ := h; exact ⟨r, h1, h2, h3.below hb⟩
theorem SpV.only {S : Nat → Prop} (h : SpV g w l) (ho : Only S w w') (hS : ¬ S g) : SpV g w' l := by obtain ⟨r, h1, h2, h3⟩ := h; exact ⟨r, h1, h2, h3.onlyP ho hS⟩
theorem SpV.many (h : SpV g w l) : LoadsL Try.prog w 117 (some ⟨g, 72, none⟩) (.int .u64 (l.length : Int)) := by
  obtain ⟨r, h1, h2, h3⟩ := h
  exact h3.one (P := Try.prog) 72 (spL_many _ _ _ rfl h1) Try.underlying117 rfl
theorem SpV.word (h : SpV g w l) {i : Nat} {x : W} (hx : (sp l).list[i]? = some x) : LoadsL Try.prog w 137 (some ⟨g, i, none⟩) (vW x) := by
  obtain ⟨r, h1, h2, h3⟩ := h
  exact spL_word h3 hx
/-- how many bytes a sponge has taken -/
def manyOf (g : Nat) (w : World) : Nat := match w.cell? ⟨g, 72, none⟩ with
  | some (.int _ m) => m.toNat
  | _ => 0
theorem SpV.manyOf (h : SpV g w l) : manyOf g w = l.length := by
  obtain ⟨r, h1, h2, h3⟩ := h
  unfold Go.Proofs.Ytgekpghjlhcpkaa.manyOf
  rw [h3.cell, spL_many _ _ _ rfl h1]
  simp
end
theorem pow_byte (j : Nat) (h : j ≤ 7) : 2 ^ (56 - 8 * j) = 256 ^ (7 - j) := by
  rw [show (256 : Nat) = 2 ^ 8 from rfl, ← Nat.pow_mul]
  congr 1
  omega
theorem pow_byte3 (i : Nat) (h : i < 4) : 2 ^ (24 - i * 8) = 256 ^ (3 - i) := by
  rw [show (256 : Nat) = 2 ^ 8 from rfl, ← Nat.pow_mul]
  congr 1
  omega
end Go.Proofs.Ytgekpghjlhcpkaa
/-! hash.end: what stands behind, and the digest. -/
namespace Go.Proofs.Ytgekpghjlhcpkaa
open Go.RowKit Pl Go.Agg Go.Sha
theorem sum_zeroE : (Try.prog.info? 133).map (·.zero) = some (some (.agg (hC (List.replicate 32 0)))) := by kernel_rfl
theorem sum_info (h : List UInt8) (hl : h.length = 32) : (Try.prog.info? 133).map (·.size) = some (hC h).size := by rw [hC_size, hl]; kernel_rfl
theorem hC_setE (l : List UInt8) (i : Nat) (c : UInt8) : (hC l).setIfInBounds i (.int .u8 (c.toNat : Int)) = hC (l.set i c) := by simp [hC, Lib.byteCells, List.map_set]
theorem hC_one1 (h : List UInt8) : (hC h).all (·.oneCell') = true := by simp [hC, Lib.byteCells, Value.oneCell']
def outK (x : St) (k : Nat) : List UInt8 := (List.range k).map x.byte ++ List.replicate (32 - k) 0
theorem outK_length (x : St) (k : Nat) (hk : k ≤ 32) : (outK x k).length = 32 := by simp [outK]; omega
theorem outK_set (x : St) (k : Nat) (hk : k < 32) : (outK x k).set k (x.byte k) = outK x (k + 1) := by
  have := set_mid ((List.range k).map x.byte) (x.byte k) 0 (32 - (k + 1))
  rw [List.length_map, List.length_range, show 32 - (k + 1) + 1 = 32 - k by omega] at this
  rw [outK, this, outK, List.range_succ, List.map_append]
  rfl
def bitB (n i : Nat) : UInt8 := UInt8.ofNat (8 * n / 256 ^ (7 - i))
theorem padded_eq (l : List UInt8) : padded l = ((l ++ [128]) ++ List.replicate ((119 - l.length % 64) % 64) 0) ++ (List.range 8).map (bitB l.length) := by
  simp only [padded, tail, List.append_assoc]
  rfl
theorem take1_any (g B : Nat) (v : Value) (l : List UInt8) (c : UInt8) (hlen : l.length < 900000000000) (w : World) (hs : SpV g w l) (ho : Own EB B w v [c]) (hB : g < B) :
    Calls Try.prog 78 #[.pointer (some ⟨g, 0, none⟩), v] w fun e w' => (∃ r, e = .returned r) ∧ SpV g w' (l ++ [c]) ∧ Only (· = g) w w' :=
  take_any g v l [c] (by simp; omega) w hs ho.slice (.inr (fun e => by have := (ho.block g e).1; omega)) (fun p m k e => by obtain ⟨_, h⟩ := ho; rcases h with ⟨h, _⟩ | ⟨_, cap, _, h, _, _, hle, _⟩ <;> (rw [h] at e; injection e with _ e2 e3; omega))
set_option maxRecDepth 100000 in
set_option maxHeartbeats 32000000 in
theorem end_any (g : Nat) (l : List UInt8) (hlen : l.length < 100000000000) (w : World) (hs : SpV g w l) :
    Calls Try.prog 79 #[.pointer (some ⟨g, 0, none⟩)] w fun e w' => e = .returned (.agg (hC (digest l))) ∧ Only (· = g) w w' := by
  have HS := Lib.hid hs
  have HLW := Lib.hid hs.lt
  obtain ⟨n, hn⟩ : ∃ n, l.length = n := ⟨_, rfl⟩
  have HN := Lib.hid hn
  rw [hn] at hlen
  have HP := Lib.hid (show padded l = ((l ++ [128]) ++ List.replicate ((119 - n % 64) % 64) 0) ++ (List.range 8).map (bitB n) by rw [padded_eq, hn])
  clear hs hn
  go_enter Try.func79, Try.ntmps79
  go_wp2_with (first | (with_reducible refine wpList_zero rfl 133 rfl (hC (List.replicate 32 0)) sum_zeroE ?_; intro g2 w1 hb hx hg; have HA1 := Lib.hid hb; have HS1 := Lib.hid (HS.out.below hx); have HX1 := Lib.hid hx; have HG1 := Lib.hid hg; have HM1 := Lib.hid (show LoadsL Try.prog w1 117 (some ⟨g, 72, none⟩) (.int .u64 (n : Int)) by have := (HS.out.below hx).many; rwa [HN.out] at this); clear hb hx hg) | (with_reducible refine wpList_loadL HM1.out rfl _ rfl rfl ?_) | (refine wpList_valw rfl (exec_shlQ (m := n) (by omega) rfl rfl rfl) ?_) | (refine Agg.wpList_slice1 (E := EB) (base := w1.heap.size) rfl _ rfl (128 : UInt8) rfl (Nat.le_refl _) ?_; intro va w2 ho hx; have HV2 := Lib.hid ho; have HS2 := Lib.hid (HS1.out.below hx); have HA2 := Lib.hid (HA1.out.below hx); have HO2 := Lib.hid (Only.of_below (S := (· = g)) hx); clear ho hx))
  have HGN := Lib.hid (show g2 ≠ g from fun e => by have := HLW.out; have := HG1.out; omega)
  refine (take1_any g w1.heap.size va l 128 (by rw [HN.out]; omega) w2 HS2.out HV2.out HS1.out.lt).mono ?_
  rintro e w3 ⟨⟨r3, rfl⟩, hs3, ho3⟩
  have HS3 := Lib.hid hs3
  have HO3 := Lib.hid (HO2.out.trans ho3 (fun _ _ h => h))
  have HA3 := Lib.hid (HA2.out.onlyP ho3 HGN.out)
  clear hs3 ho3
  have HL1 := Lib.hid (show (l ++ [128]).length = n + 1 by rw [List.length_append, HN.out]; rfl)
  obtain ⟨l1, hl1⟩ : ∃ q, l ++ [128] = q := ⟨_, rfl⟩
  rw [hl1] at HS3 HL1 HP
  clear hl1
  go_wp2_with fail
  go_loopw [] (fun wr => ∃ z : Nat, z ≤ (119 - n % 64) % 64 ∧ SpV g wr (l1 ++ List.replicate z 0) ∧ Blk wr g2 133 (hC (List.replicate 32 0)) ∧ Only (· = g) w1 wr) (fun wr => n + 100 - manyOf g wr)
  case atStart => exact ⟨0, by omega, by rw [List.replicate_zero, List.append_nil]; exact HS3.out, HA3.out, HO3.out⟩
  case round =>
    obtain ⟨wr1, rfl⟩ : ∃ y : World, y = wr := ⟨_, rfl⟩
    obtain ⟨z, hz, hsp, hbk, ho⟩ := hrel
    have HZL := Lib.hid (show (l1 ++ List.replicate z (0 : UInt8)).length = n + 1 + z by rw [List.length_append, HL1.out, List.length_replicate])
    have HZS := Lib.hid (show l1 ++ List.replicate (z + 1) (0 : UInt8) = (l1 ++ List.replicate z 0) ++ [0] by rw [List.replicate_succ', List.append_assoc])
    have HSP := Lib.hid hsp
    have HBK := Lib.hid hbk
    have HO := Lib.hid ho
    have HLM := Lib.hid (show LoadsL Try.prog wr1 117 (some ⟨g, 72, none⟩) (.int .u64 ((n + 1 + z : Nat) : Int)) by have := hsp.many; rwa [HZL.out] at this)
    have HMY := Lib.hid (show manyOf g wr1 = n + 1 + z by rw [hsp.manyOf, HZL.out])
    clear hsp hbk ho
    obtain ⟨q, hq⟩ : ∃ q, (n + 1 + z) % 64 = q := ⟨_, rfl⟩
    have HRM := Lib.hid (fun (o : Oper) (a : Act) (x y : Operand) (t u : TypeId) (ho : o.op = .binOp .rem t x y u) (hx : a.eval x = .int .u64 ((n + 1 + z : Nat) : Int)) (hy : a.eval y = .int .u64 ((64 : Nat) : Int)) => (show (execOp a.eval o).run Try.prog wr1 = .ok (.value (.int .u64 (q : Int))) wr1 by have := exec_remQ (P := Try.prog) (w := wr1) (m := n + 1 + z) (n := 64) (by decide) (by omega) ho hx hy; rwa [hq] at this))
    by_cases hlt : z < (119 - n % 64) % 64
    · have hq1 : ((q : Int) != 56) = true := by rw [bne_iff_ne]; omega
      have hq2 : decide ((q : Int) = 56) = false := decide_eq_false (by omega)
      have hq3 : decide (q = 56) = false := decide_eq_false (by omega)
      have hq4 : (q != 56) = true := by rw [bne_iff_ne]; omega
      go_wp2_with (first | (with_reducible refine wpList_loadL HLM.out rfl _ rfl rfl ?_) | (refine wpList_valw rfl (HRM.out _ _ _ _ _ _ rfl rfl rfl) ?_) | (refine Agg.wpList_slice1 (E := EB) (base := wr1.heap.size) rfl _ rfl (0 : UInt8) rfl (Nat.le_refl _) ?_; intro va w2 ho hx; have HV4 := Lib.hid ho; have HS4 := Lib.hid (HSP.out.below hx); have HA4 := Lib.hid (HBK.out.below hx); have HO4 := Lib.hid (HO.out.trans (Only.of_below (S := (· = g)) hx) (fun _ _ h => h)); clear ho hx))
      refine (take1_any g wr1.heap.size va (l1 ++ List.replicate z 0) 0 (by rw [HZL.out]; omega) w2 HS4.out HV4.out HSP.out.lt).mono ?_
      rintro e w5 ⟨⟨r5, rfl⟩, hs5, ho5⟩
      have HS5 := Lib.hid hs5
      have HO5 := Lib.hid (HO4.out.trans ho5 (fun _ _ h => h))
      have HA5 := Lib.hid (HA4.out.onlyP ho5 HGN.out)
      have HM5 := Lib.hid (show manyOf g w5 = n + 1 + z + 1 by rw [hs5.manyOf, List.length_append, HZL.out]; rfl)
      clear hs5 ho5
      go_wp2_with fail
      go_roundw
      case rel => exact ⟨z + 1, by omega, by rw [HZS.out]; exact HS5.out, HA5.out, HO5.out⟩
      case measure => have h1 := HM5.out; have h2 := HMY.out; omega
    · have hq1 : ((q : Int) != 56) = false := by rw [bne_eq_false_iff_eq]; omega
      have hq2 : decide ((q : Int) = 56) = true := decide_eq_true (by omega)
      have hq3 : decide (q = 56) = true := decide_eq_true (by omega)
      have hq4 : (q != 56) = false := by rw [bne_eq_false_iff_eq]; omega
      obtain rfl : z = (119 - n % 64) % 64 := by omega
      obtain ⟨lz, hlz⟩ : ∃ q, l1 ++ List.replicate ((119 - n % 64) % 64) (0 : UInt8) = q := ⟨_, rfl⟩
      rw [hlz] at HSP HZL HP
      clear hlz HZS HMY
      go_wp2_with (first | (with_reducible refine wpList_loadL HLM.out rfl _ rfl rfl ?_) | (refine wpList_valw rfl (HRM.out _ _ _ _ _ _ rfl rfl rfl) ?_))
      have HZ2 := Lib.hid (show lz.length < n + 100 by rw [HZL.out]; omega)
      go_loopw [4] (fun i wr => ∃ j : Nat, j ≤ 8 ∧ i = .int .i64 (if j ≤ 7 then ((56 - 8 * j : Nat) : Int) else -8) ∧ SpV g wr (lz ++ (List.range j).map (bitB n)) ∧ Blk wr g2 133 (hC (List.replicate 32 0)) ∧ Only (· = g) w1 wr) (fun i _ => (intOf i + 8).toNat)
      case atStart => exact ⟨0, by omega, rfl, by simpa using HSP.out, HBK.out, HO.out⟩
      case round =>
        obtain ⟨wr2, rfl⟩ : ∃ y : World, y = wr := ⟨_, rfl⟩
        obtain ⟨j, hj, rfl, hsp, hbk, ho⟩ := hrel
        have HSP2 := Lib.hid hsp
        have HBK2 := Lib.hid hbk
        have HO2b := Lib.hid ho
        clear hsp hbk ho
        by_cases hj7 : j ≤ 7
        · rw [if_pos hj7]
          obtain ⟨s, hs⟩ : ∃ s, 56 - 8 * j = s := ⟨_, rfl⟩
          rw [hs]
          have hd1 : decide ((0 : Int) ≤ (s : Int)) = true := decide_eq_true (by omega)
          have hd2 : decide ((s : Int) < 0) = false := decide_eq_false (by omega)
          have HBY := Lib.hid (show UInt8.ofNat (n * 8 / 2 ^ s) = bitB n j by rw [bitB, ← hs, pow_byte j hj7, Nat.mul_comm])
          have HRG := Lib.hid (show lz ++ (List.range (j + 1)).map (bitB n) = (lz ++ (List.range j).map (bitB n)) ++ [bitB n j] by rw [List.range_succ, List.map_append, List.append_assoc]; rfl)
          have HLN := Lib.hid (show (lz ++ (List.range j).map (bitB n)).length < 900000000000 by have := HZ2.out; simp only [List.length_append, List.length_map, List.length_range]; omega)
          have HS64 := Lib.hid (show s ≤ IntKind.u64.bits by show s ≤ 64; omega)
          go_wp2_with (first | (refine wpList_valw rfl (exec_shrN (k := .u64) (m := n * 8) (n := s) HS64.out rfl rfl rfl) ?_) | (refine wpList_valw rfl (exec_cvQB (n := n * 8 / 2 ^ s) rfl rfl) ?_) | (refine Agg.wpList_slice1 (E := EB) (base := wr2.heap.size) rfl _ rfl (UInt8.ofNat (n * 8 / 2 ^ s)) rfl (Nat.le_refl _) ?_; intro va w4 ho hx; have HV4 := Lib.hid ho; have HS4 := Lib.hid (HSP2.out.below hx); have HA4 := Lib.hid (HBK2.out.below hx); have HO4 := Lib.hid (HO2b.out.trans (Only.of_below (S := (· = g)) hx) (fun _ _ h => h)); clear ho hx))
          refine (take1_any g wr2.heap.size va (lz ++ (List.range j).map (bitB n)) (UInt8.ofNat (n * 8 / 2 ^ s)) HLN.out w4 HS4.out HV4.out HSP2.out.lt).mono ?_
          rintro e w5 ⟨⟨r5, rfl⟩, hs5, ho5⟩
          have HS5 := Lib.hid (show SpV g w5 (lz ++ (List.range (j + 1)).map (bitB n)) by rw [HRG.out, ← HBY.out]; exact hs5)
          have HO5 := Lib.hid (HO4.out.trans ho5 (fun _ _ h => h))
          have HA5 := Lib.hid (HA4.out.onlyP ho5 HGN.out)
          clear hs5 ho5
          go_wp2_with fail
          go_roundw
          case rel => exact ⟨j + 1, by omega, by first | (congr 1; split <;> omega) | (simp; split <;> omega), HS5.out, HA5.out, HO5.out⟩
          case measure => simp [intOf]; omega
        · obtain rfl : j = 8 := by omega
          rw [if_neg hj7]
          have hd1 : decide ((0 : Int) ≤ -8) = false := by decide
          have HSX := Lib.hid (show SpV g wr2 (padded l) by rw [HP.out]; exact HSP2.out)
          have HIG := Lib.hid (fun (i : Nat) (h : i < 8) W => (show (Instr.indexAt 139 (.pointer (some ⟨g, 0, none⟩)) (.int .i64 (i : Int))).run Try.prog W = .ok (.pointer (some ⟨g, i, none⟩)) W by have := run_idxArr (P := Try.prog) (t := 139) (e := 137) (w := W) Try.underlying139 (by kernel_rfl) g 0 i h; rwa [Nat.zero_add] at this))
          have HI2 := Lib.hid (fun (i : Nat) (h : i < 32) W => (show (Instr.indexAt 133 (.pointer (some ⟨g2, 0, none⟩)) (.int .i64 (i : Int))).run Try.prog W = .ok (.pointer (some ⟨g2, i, none⟩)) W by have := run_idxArr (P := Try.prog) (t := 133) (e := 5) (w := W) Try.underlying133 (by kernel_rfl) g2 0 i h; rwa [Nat.zero_add] at this))
          obtain ⟨X, hX⟩ : ∃ X, sp (padded l) = X := ⟨_, rfl⟩
          have HDG := Lib.hid (show (List.range 32).map X.byte = digest l by rw [← hX]; rfl)
          have HX := Lib.hid hX
          clear hX
          go_wp2_with fail
          go_loopw [34] (fun i wr => ∃ k : Nat, k ≤ 32 ∧ i = .int .i64 (k : Int) ∧ SpV g wr (padded l) ∧ Blk wr g2 133 (hC (outK X k)) ∧ Only (fun b => b = g ∨ b = g2) w1 wr) (fun i _ => 32 - (intOf i).toNat)
          case atStart => exact ⟨0, by omega, rfl, HSX.out, HBK2.out, HO2b.out.mono (fun _ _ h => .inl h)⟩
          case round =>
            obtain ⟨wr3, rfl⟩ : ∃ y : World, y = wr := ⟨_, rfl⟩
            obtain ⟨k, hk, rfl, hsp, hbk, ho⟩ := hrel
            by_cases hlt : k < 32
            · have hd2 : decide ((k : Int) < 32) = true := by simp; omega
              obtain ⟨y, hy⟩ : ∃ y, X.list[k / 2 ^ 2]? = some y := ⟨_, List.getElem?_eq_getElem (by simp only [St.list, List.length_cons, List.length_nil]; omega)⟩
              have HLY := Lib.hid (hsp.word (i := k / 2 ^ 2) (x := y) (by rw [HX.out]; exact hy))
              have HCB := Lib.hid (show UInt8.ofNat (y >>> (24 - k % 4 * 8)).toNat = X.byte k by rw [Sha.shaByte_at, BitVec.toNat_ushiftRight, Nat.shiftRight_eq_div_pow, pow_byte3 _ (Nat.mod_lt _ (by omega)), show k / 4 = k / 2 ^ 2 from rfl]; simp [List.getD, hy])
              obtain ⟨w4, hrs, hb4, ho4⟩ := Blk.run_one (P := Try.prog) (ty := 5) hbk k (by rw [hC_size, outK_length _ _ hk]; exact hlt) (.int .u8 ((UInt8.ofNat (y >>> (24 - k % 4 * 8)).toNat).toNat : Int)) rfl rfl (by kernel_rfl) (hC (outK X (k + 1))) (by rw [hC_setE, HCB.out, outK_set _ _ hlt])
              have HRS := Lib.hid hrs
              have HB4 := Lib.hid hb4
              have HS4 := Lib.hid (hsp.only ho4 (fun e => HGN.out e.symm))
              have HO4 := Lib.hid (ho.trans ho4 (fun _ _ h => .inr h))
              clear hy hsp hbk ho hrs hb4 ho4
              obtain ⟨i4, hi4⟩ : ∃ i, k / 2 ^ 2 = i := ⟨_, rfl⟩
              obtain ⟨m4, hm4⟩ : ∃ i, k % 4 = i := ⟨_, rfl⟩
              obtain ⟨sh, hsh⟩ : ∃ i, 24 - k % 4 * 8 = i := ⟨_, rfl⟩
              obtain ⟨by_, hby⟩ : ∃ c, UInt8.ofNat (y >>> (24 - k % 4 * 8)).toNat = c := ⟨_, rfl⟩
              have HIA := Lib.hid (fun W => (show (Instr.indexAt 139 (.pointer (some ⟨g, 0, none⟩)) (.int .i64 (i4 : Int))).run Try.prog W = .ok (.pointer (some ⟨g, i4, none⟩)) W from HIG.out i4 (by omega) W))
              have HIB := Lib.hid (fun W => HI2.out k hlt W)
              have A1 := Lib.hid (fun (o : Oper) (a : Act) (x y : Operand) (t u : TypeId) (ho : o.op = .binOp .shr t x y u) (hx : a.eval x = .int .i64 (k : Int)) (hy : a.eval y = .int .u64 ((2 : Nat) : Int)) => (show (execOp a.eval o).run Try.prog wr3 = .ok (.value (.int .i64 (i4 : Int))) wr3 by have := exec_shrN (P := Try.prog) (w := wr3) (k := .i64) (m := k) (n := 2) (by decide) ho hx hy; rwa [hi4] at this))
              have A2 := Lib.hid (fun (o : Oper) (a : Act) (x y : Operand) (t u : TypeId) (ho : o.op = .binOp .and t x y u) (hx : a.eval x = .int .i64 (k : Int)) (hy : a.eval y = .int .i64 3) => (show (execOp a.eval o).run Try.prog wr3 = .ok (.value (.int .i64 (m4 : Int))) wr3 by have := exec_and3 (P := Try.prog) (w := wr3) hlt ho hx hy; rwa [hm4] at this))
              have A3 := Lib.hid (fun (o : Oper) (a : Act) (x y : Operand) (t u : TypeId) (ho : o.op = .binOp .shl t x y u) (hx : a.eval x = .int .i64 (m4 : Int)) (hy : a.eval y = .int .u64 3) => exec_shl3 (P := Try.prog) (w := wr3) (m := m4) (by omega) ho hx hy)
              have A4 := Lib.hid (fun (o : Oper) (a : Act) (x y : Operand) (t u : TypeId) (ho : o.op = .binOp .sub t x y u) (hx : a.eval x = .int .i64 ((24 : Nat) : Int)) (hy : a.eval y = .int .i64 ((m4 * 8 : Nat) : Int)) => (show (execOp a.eval o).run Try.prog wr3 = .ok (.value (.int .i64 (sh : Int))) wr3 by have := exec_subI (P := Try.prog) (w := wr3) (m := 24) (n := m4 * 8) (by omega) (by omega) ho hx hy; rwa [show 24 - m4 * 8 = sh by rw [← hm4]; exact hsh] at this))
              have A5 := Lib.hid (fun (o : Oper) (a : Act) (x z : Operand) (t u : TypeId) (ho : o.op = .binOp .shr t x z u) (hx : a.eval x = vW y) (hy : a.eval z = .int .i64 (sh : Int)) => exec_shrW (P := Try.prog) (w := wr3) (x := y) sh (by omega) ho hx hy)
              have A6 := Lib.hid (fun (o : Oper) (a : Act) (x : Operand) (ho : o.op = .convert 137 5 x) (hx : a.eval x = vW (y >>> sh)) => (show (execOp a.eval o).run Try.prog wr3 = .ok (.value (.int .u8 (by_.toNat : Int))) wr3 by have := exec_cvWB (w := wr3) ho hx; rwa [← hsh, hby] at this))
              rw [hby] at HRS
              rw [hi4] at HLY
              have hia := HIA.out
              have hib := HIB.out
              clear hi4 hm4 hsh hby
              go_wp2_with (first | (refine wpList_valw rfl (A1.out _ _ _ _ _ _ rfl rfl rfl) ?_) | (with_reducible refine wpList_loadL HLY.out rfl _ rfl rfl ?_) | (refine wpList_valw rfl (A2.out _ _ _ _ _ _ rfl rfl rfl) ?_) | (refine wpList_valw rfl (A3.out _ _ _ _ _ _ rfl rfl rfl) ?_) | (refine wpList_valw rfl (A4.out _ _ _ _ _ _ rfl rfl rfl) ?_) | (refine wpList_valw rfl (A5.out _ _ _ _ _ _ rfl rfl rfl) ?_) | (refine wpList_valw rfl (A6.out _ _ _ rfl rfl) ?_) | (refine wpList_store rfl rfl 5 _ _ rfl (.pointer (some ⟨g2, k, none⟩)) (.int .u8 (by_.toNat : Int)) rfl rfl HRS.out ?_))
              go_roundw
              case rel => exact ⟨k + 1, by omega, by go_num, HS4.out, HB4.out, HO4.out⟩
              case measure => simp [intOf]; omega
            · obtain rfl : k = 32 := by omega
              have HB5 := Lib.hid (show Blk wr3 g2 133 (hC (digest l)) by rw [← HDG.out]; have := hbk; rwa [outK, show List.replicate (32 - 32) (0 : UInt8) = [] from rfl, List.append_nil] at this)
              have HO5 := Lib.hid ho
              have HLD := Lib.hid (HB5.out.loads (P := Try.prog) Try.underlying133 rfl (sum_info _ (digest_length l)))
              clear hsp hbk ho
              go_wp2_with (first | (with_reducible refine wpList_loadL HLD.out rfl _ rfl rfl ?_) | ((with_reducible refine wpList_put rfl rfl 133 _ _ rfl g2 (hC (digest l)) (hC (digest l)) rfl rfl HB5.out (sum_info _ (digest_length l)) rfl (hC_one1 _) ?_); intro w7 hb7 hx7 hz7 hk7; have HB7 := Lib.hid hb7; have HO7 := Lib.hid (show Only (· = g) w w7 from (Only.of_below HX1.out).trans (HO5.out.trans (Only.mono (S := (· = g2)) ⟨hx7.os, hx7.tape, hx7.output, by rw [hz7]; exact Nat.le_refl _, fun i _ hi => hk7 i hi⟩ (fun _ _ h => h)) (fun _ _ h => .inr h)) (fun i hi h => h.elim id (fun e => by have := HG1.out; omega))); clear hb7 hx7 hz7 hk7))
              exact post_row rfl rfl HB7.out Try.underlying133 rfl (sum_info _ (digest_length l)) rfl ⟨rfl, HO7.out⟩
end Go.Proofs.Ytgekpghjlhcpkaa
/-! hash.Sum: the digest of parts. -/
namespace Go.Proofs.Ytgekpghjlhcpkaa
open Go.RowKit Pl Go.Agg Go.Sha
/-- parts of bytes -/
structure PartsAt (w : World) (v : Value) (vs : List SV) (ls : List (List UInt8)) : Prop where
  row : SliceOf EBB w v vs
  len : vs.length = ls.length
  part : ∀ (k : Nat) (s : SV) (b : List UInt8), vs[k]? = some s → ls[k]? = some b → SliceOf EB w s.1 b ∧ ∀ p n c, s.1 = .slice p n c → n ≤ c
theorem PartsAt.below {w w' : World} {v : Value} {vs : List SV} {ls : List (List UInt8)} (h : PartsAt w v vs ls) (hb : Below w.heap.size w w') : PartsAt w' v vs ls := ⟨SliceOf.below h.row hb, h.len, fun k s b h1 h2 => ⟨SliceOf.below (h.part k s b h1 h2).1 hb, (h.part k s b h1 h2).2⟩⟩
theorem slice_old {w : World} {v : Value} {b : List UInt8} {g : Nat} (h : SliceOf EB w v b) (hg : w.heap.size ≤ g) : b = [] ∨ v.ownBlock ≠ some g := by
  rcases h with ⟨_, _, _, hl⟩ | ⟨p, c, rfl, hp, _⟩
  · exact .inl hl
  · refine .inr fun e => ?_
    simp only [Value.ownBlock, Option.some.injEq] at e
    omega
theorem part_at {w : World} {v : Value} {vs : List SV} (h : SliceOf EBB w v vs) (k : Nat) (s : SV) (hk : vs[k]? = some s) :
    ∃ p : Addr, (∀ W, (Instr.indexAt 121 v (.int .i64 (k : Int))).run Try.prog W = .ok (.pointer (some p)) W) ∧ LoadsL Try.prog w 23 (some p) s.1 := by
  obtain ⟨p, h1, _, _, h4⟩ := h.at_ k s hk
  exact ⟨p, h1, h4⟩
theorem parts_len {w : World} {v : Value} {vs : List SV} (h : SliceOf EBB w v vs) (W : World) : (Builtin.len_ #[121] 3 #[v]).run Try.prog W = .ok (.int .i64 (vs.length : Int)) W := h.len W
theorem SpV.nil {g : Nat} {w : World} (hb : Blk w g 143 (spL Sha.first.list (List.replicate 64 0) 0)) : SpV g w [] := ⟨List.replicate 64 0, by simp, rfl, hb⟩
set_option maxRecDepth 100000 in
set_option maxHeartbeats 16000000 in
theorem hsum_any (v : Value) (vs : List SV) (ls : List (List UInt8)) (hlen : ls.flatten.length < 100000000) (hvn : vs.length ≤ 1048576) (w : World) (hp : PartsAt w v vs ls) : Calls Try.prog 75 #[v] w fun e w' => e = .returned (.agg (hC (digest ls.flatten))) ∧ Below w.heap.size w w' := by
  have HPT := Lib.hid hp
  have hlv := fun W => parts_len hp.row W
  have hvl := hp.len
  have HBLD := Lib.hid (fun W => (by kernel_rfl : (Instr.build 143 #[(0, .agg (wC Sha.first.list))]).run Try.prog W = .ok (.agg (spL Sha.first.list (List.replicate 64 0) 0)) W))
  clear hp
  go_enter Try.func75, Try.ntmps75
  go_wp2_with (first | (with_reducible refine wpList_zero rfl 133 rfl (hC (List.replicate 32 0)) sum_zeroE ?_; intro g2 w1 hb hx hg; have HA1 := Lib.hid hb; have HX1 := Lib.hid hx; have HG2 := Lib.hid hg; clear hb hx hg))
  refine (first_any w1).mono ?_
  rintro e w2 ⟨rfl, hx2⟩
  have HA2 := Lib.hid (HA1.out.below hx2)
  have HX2 := Lib.hid (Agg.belowThen HX1.out (Nat.le_refl _) hx2)
  clear hx2
  go_wp2_with (first | (with_reducible refine Agg.wpList_build1 143 0 _ rfl rfl (.agg (wC Sha.first.list)) rfl (.agg (spL Sha.first.list (List.replicate 64 0) 0)) HBLD.out ?_) | ((with_reducible refine wpList_box rfl 143 _ rfl (spL Sha.first.list (List.replicate 64 0) 0) rfl ?_); intro g w3 hb hx hg; have HS3 := Lib.hid (SpV.nil hb); have HA3 := Lib.hid (HA2.out.below hx); have HX3 := Lib.hid (Agg.belowThen HX2.out (Nat.le_refl _) hx); have HGG := Lib.hid hg; have HGW := Lib.hid (Nat.le_trans HX2.out.size hg); have HNG := Lib.hid (show g2 ≠ g from fun e => by have := HA2.out.lt; omega); clear hb hx hg))
  have HLS := Lib.hid (fun k => (show (ls.take k).flatten.length ≤ ls.flatten.length by
    have h := congrArg (fun q => (List.flatten q).length) (List.take_append_drop k ls)
    simp only [List.flatten_append, List.length_append] at h
    omega))
  go_loopw [11] (fun i wr => ∃ k : Nat, k ≤ vs.length ∧ i = .int .i64 (k : Int) ∧ SpV g wr (ls.take k).flatten ∧ Blk wr g2 133 (hC (List.replicate 32 0)) ∧ Only (· = g) w3 wr) (fun i _ => vs.length - (intOf i).toNat)
  case atStart => exact ⟨0, by omega, rfl, HS3.out, HA3.out, Only.refl _ _⟩
  case round =>
    obtain ⟨wr1, rfl⟩ : ∃ y : World, y = wr := ⟨_, rfl⟩
    obtain ⟨k, hk, rfl, hsp, hbk, ho⟩ := hrel
    have hw := HX3.out.trans (ho.below (B := w.heap.size) HX3.out.size (fun i hi => by subst hi; exact HGW.out))
    have HSP := Lib.hid hsp
    have HBK := Lib.hid hbk
    have HO := Lib.hid ho
    have HW := Lib.hid hw
    clear hsp hbk ho hw
    by_cases hlt : k < vs.length
    · have hd1 : decide ((k : Int) < (vs.length : Int)) = true := by simp; omega
      obtain ⟨sv, hsv⟩ : ∃ y, vs[k]? = some y := ⟨_, List.getElem?_eq_getElem hlt⟩
      obtain ⟨b, hb⟩ : ∃ y, ls[k]? = some y := ⟨_, List.getElem?_eq_getElem (by omega)⟩
      obtain ⟨p, hadr, hld⟩ := part_at (SliceOf.below HPT.out.row HW.out) k sv hsv
      obtain ⟨hsl, hcap⟩ := HPT.out.part k sv b hsv hb
      have HTK := Lib.hid (show (ls.take (k + 1)).flatten = (ls.take k).flatten ++ b by rw [List.take_add_one, hb, List.flatten_append]; simp)
      have HLT := Lib.hid (show (ls.take k).flatten.length + b.length < 1000000000000 by have h := HLS.out (k + 1); rw [HTK.out, List.length_append] at h; omega)
      have HLD := Lib.hid hld
      have HSL := Lib.hid (SliceOf.below hsl HW.out)
      have HOLD := Lib.hid (slice_old hsl HGW.out)
      have HCAP := Lib.hid hcap
      clear hsv hb hld hsl hcap
      go_wp2_with (first | (with_reducible refine wpList_loadL HLD.out rfl _ rfl rfl ?_))
      refine (take_any g sv.1 (ls.take k).flatten b HLT.out wr1 HSP.out HSL.out HOLD.out HCAP.out).mono ?_
      rintro e w5 ⟨⟨r5, rfl⟩, hs5, ho5⟩
      have HS5 := Lib.hid hs5
      have HO5 := Lib.hid (HO.out.trans ho5 (fun _ _ h => h))
      have HA5 := Lib.hid (HBK.out.onlyP ho5 HNG.out)
      clear hs5 ho5
      go_wp2_with fail
      go_roundw
      case rel => exact ⟨k + 1, by omega, by go_num, by rw [HTK.out]; exact HS5.out, HA5.out, HO5.out⟩
      case measure => simp [intOf]; omega
    · obtain rfl : k = vs.length := by omega
      have HSE := Lib.hid (show SpV g wr1 ls.flatten by have := HSP.out; rwa [List.take_of_length_le (by omega)] at this)
      obtain ⟨fl, hfl⟩ : ∃ q, ls.flatten = q := ⟨_, rfl⟩
      have HFL := Lib.hid hfl
      rw [hfl] at HSE hlen
      clear hfl
      go_wp2_with fail
      refine (end_any g fl (by omega) wr1 HSE.out).mono ?_
      rintro e w6 ⟨rfl, ho6⟩
      obtain ⟨dg, hdg⟩ : ∃ q, digest fl = q := ⟨_, rfl⟩
      have hdl : dg.length = 32 := by rw [← hdg]; exact digest_length fl
      have HDG := Lib.hid hdg
      have HA6 := Lib.hid (HBK.out.onlyP ho6 HNG.out)
      have HW6 := Lib.hid (HW.out.trans (ho6.below (B := w.heap.size) HW.out.size (fun i hi => by subst hi; exact HGW.out)))
      rw [hdg]
      clear ho6 hdg
      go_wp2_with (first | ((with_reducible refine wpList_put rfl rfl 133 _ _ rfl g2 (hC dg) (hC (List.replicate 32 0)) rfl rfl HA6.out (sum_info _ hdl) (by rw [hC_size, hC_size, hdl, List.length_replicate]) (hC_one1 _) ?_); intro w7 hb7 hx7 _ _; have HB7 := Lib.hid hb7; have HX7 := Lib.hid (HW6.out.trans (hx7.mono HG2.out)); clear hb7 hx7))
      exact post_row rfl rfl HB7.out Try.underlying133 rfl (sum_info _ hdl) rfl ⟨by rw [HFL.out, HDG.out], HX7.out⟩
end Go.Proofs.Ytgekpghjlhcpkaa
/-! hash.Fold: a digest folded. -/
namespace Go.Agg
open Go.RowKit
variable {P : Program} {o : Oper} {a : Act} {w : World} {t u : TypeId} {x y : Operand} {m n : Nat} {c d : UInt8}
theorem exec_remI (hn : 0 < n) (hm : m < 9223372036854775808) (ho : o.op = .binOp .rem t x y u) (hx : a.eval x = .int .i64 (m : Int)) (hy : a.eval y = .int .i64 (n : Int)) : (execOp a.eval o).run P w = .ok (.value (.int .i64 ((m % n : Nat) : Int))) w := by
  have hc : (binOp .rem t (.int .i64 (m : Int)) (.int .i64 (n : Int))).run P w = .ok (.int .i64 ((m % n : Nat) : Int)) w := by
    have hlt := Nat.mod_lt m hn
    have hle := Nat.mod_le m n
    have hne : ¬ (n : Int) = 0 := by omega
    have e : ((m : Int).tmod (n : Int)) = ((m % n : Nat) : Int) := by
      rw [Int.tmod_eq_emod_of_nonneg (by omega)]
      first | exact (Int.natCast_emod m n).symm | exact (Int.ofNat_emod m n).symm | (push_cast; rfl)
    simp only [binOp, Op.intDiv, if_neg hne]
    first
      | exact congrArg (fun n => Result.ok (Value.int .i64 n) w) (by rw [e]; exact wrap_i64N _ (by omega))
      | exact congrArg (fun n => Result.ok (Value.int .i64 n) w) e
      | simp [e, wrap_i64N _ (show m % n < 9223372036854775808 by omega), hne]
  simp only [execOp, ho, hx, hy]
  simp [eqGuard, hc]
theorem exec_xorB (ho : o.op = .binOp .xor t x y u) (hx : a.eval x = .int .u8 (c.toNat : Int)) (hy : a.eval y = .int .u8 (d.toNat : Int)) : (execOp a.eval o).run P w = .ok (.value (.int .u8 ((c ^^^ d).toNat : Int))) w := by
  have hc : (binOp .xor t (.int .u8 (c.toNat : Int)) (.int .u8 (d.toNat : Int))).run P w = .ok (.int .u8 ((c ^^^ d).toNat : Int)) w := by
    simp only [binOp, Op.intBits]
    refine congrArg (fun n => Result.ok (Value.int .u8 n) w) ?_
    have h1 := (c ^^^ d).toNat_lt
    have e1 : BitVec.ofInt IntKind.u8.bits (c.toNat : Int) = BitVec.ofNat 8 c.toNat := BitVec.ofInt_natCast _ _
    have e2 : BitVec.ofInt IntKind.u8.bits (d.toNat : Int) = BitVec.ofNat 8 d.toNat := BitVec.ofInt_natCast _ _
    have e3 : (BitVec.ofNat 8 c.toNat ^^^ BitVec.ofNat 8 d.toNat).toNat = (c ^^^ d).toNat := by
      have hc8 := c.toNat_lt
      have hd8 := d.toNat_lt
      rw [BitVec.toNat_xor, BitVec.toNat_ofNat, BitVec.toNat_ofNat, UInt8.toNat_xor, Nat.mod_eq_of_lt hc8, Nat.mod_eq_of_lt hd8]
    rw [e1, e2]
    show IntKind.u8.wrap (((BitVec.ofNat 8 c.toNat ^^^ BitVec.ofNat 8 d.toNat).toNat : Nat) : Int) = _
    rw [e3]
    simp only [IntKind.wrap, IntKind.signed, IntKind.bits, Bool.false_and, Bool.false_eq_true, if_false]
    omega
  simp only [execOp, ho, hx, hy]
  simp [eqGuard, hc]
end Go.Agg
namespace Go.Proofs.Ytgekpghjlhcpkaa
open Go.RowKit Pl Go.Agg Go.Sha
theorem hash_zero1 : (Try.prog.info? 45).map (·.zero) = some (some (.agg (hC (List.replicate 20 0)))) := by kernel_rfl
theorem hash_info1 (h : List UInt8) (hl : h.length = 20) : (Try.prog.info? 45).map (·.size) = some (hC h).size := by rw [hC_size, hl]; kernel_rfl
theorem hC_get1 (h : List UInt8) (i : Nat) (c : UInt8) (hc : h[i]? = some c) : (hC h)[i]? = some (.int .u8 (c.toNat : Int)) := by simp [hC, Lib.byteCells, hc]
set_option maxRecDepth 100000 in
set_option maxHeartbeats 16000000 in
theorem fold_any (s : List UInt8) (hs : s.length = 32) (w : World) : Calls Try.prog 74 #[.agg (hC s)] w fun e w' => e = .returned (.agg (hC (foldG s 32))) ∧ Below w.heap.size w w' := by
  go_enter Try.func74, Try.ntmps74
  go_wp2_with (first | (with_reducible refine wpList_box rfl 133 _ rfl (hC s) rfl ?_; intro g1 w1 hb hx hg; have HB1 := Lib.hid hb; have HX1 := Lib.hid hx; clear hb hx hg) | (with_reducible refine wpList_zero rfl 45 rfl (hC (List.replicate 20 0)) hash_zero1 ?_; intro g2 w2 hb hx hg; have HA2 := Lib.hid hb; have HX2 := Lib.hid (Agg.belowThen HX1.out (Nat.le_refl _) hx); have HG2 := Lib.hid (Nat.le_trans HX1.out.size hg); have HLD := Lib.hid ((HB1.out.below hx).loads (P := Try.prog) Try.underlying133 rfl (sum_info _ hs)); clear hb hx hg) | (with_reducible refine wpList_loadL HLD.out rfl _ rfl rfl ?_))
  go_loopw [6] (fun i wr => ∃ k : Nat, k ≤ 32 ∧ i = .int .i64 (k : Int) ∧ Blk wr g2 45 (hC (foldG s k)) ∧ Below w.heap.size w wr) (fun i _ => 32 - (intOf i).toNat)
  case atStart => exact ⟨0, by omega, rfl, HA2.out, HX2.out⟩
  case round =>
    obtain ⟨wr1, rfl⟩ : ∃ y : World, y = wr := ⟨_, rfl⟩
    obtain ⟨k, hk, rfl, hbk, hw⟩ := hrel
    by_cases hlt : k < 32
    · have hd1 : decide ((k : Int) < 32) = true := by simp; omega
      obtain ⟨q, hq⟩ : ∃ q, k % 20 = q := ⟨_, rfl⟩
      have hq20 : q < 20 := by omega
      obtain ⟨c, hc⟩ : ∃ c, s[k]? = some c := ⟨_, List.getElem?_eq_getElem (by omega)⟩
      obtain ⟨d, hd⟩ : ∃ d, (foldG s k)[q]? = some d := ⟨_, List.getElem?_eq_getElem (by rw [foldG_length]; exact hq20)⟩
      have HIX := Lib.hid (fun W => run_index_agg (P := Try.prog) (t := 133) (e := 5) (n := 32) (cs := Lib.byteCells s) (k := .i64) (i := k) (v := .int .u8 (c.toNat : Int)) W Try.underlying133 (by kernel_rfl) (fun _ => by kernel_rfl) hlt (by simp [Lib.byteCells, hc]))
      have HRM := Lib.hid (fun (o : Oper) (a : Act) (x y : Operand) (t u : TypeId) (ho : o.op = .binOp .rem t x y u) (hx : a.eval x = .int .i64 (k : Int)) (hy : a.eval y = .int .i64 ((20 : Nat) : Int)) => (show (execOp a.eval o).run Try.prog wr1 = .ok (.value (.int .i64 (q : Int))) wr1 by have := exec_remI (P := Try.prog) (w := wr1) (m := k) (n := 20) (by decide) (by omega) ho hx hy; rwa [hq] at this))
      have hia : ∀ W, (Instr.indexAt 45 (.pointer (some ⟨g2, 0, none⟩)) (.int .i64 (q : Int))).run Try.prog W = .ok (.pointer (some ⟨g2, q, none⟩)) W := fun W => by have := run_idxArr (P := Try.prog) (t := 45) (e := 5) (w := W) Try.underlying45 (by kernel_rfl) g2 0 q hq20; rwa [Nat.zero_add] at this
      have HLB := Lib.hid (hbk.one (P := Try.prog) q (hC_get1 _ _ _ hd) Try.underlying5 rfl)
      obtain ⟨w3, hrs, hb3, ho3⟩ := Blk.run_one (P := Try.prog) (ty := 5) hbk q (by rw [hC_size, foldG_length]; exact hq20) (.int .u8 ((d ^^^ c).toNat : Int)) rfl rfl (by kernel_rfl) (hC (foldG s (k + 1))) (by rw [hC_setE, foldG, hq]; simp [List.getD, hc, hd])
      have HRS := Lib.hid hrs
      have HB3 := Lib.hid hb3
      have HW3 := Lib.hid (hw.trans (ho3.below (B := w.heap.size) hw.size (fun i hi => by subst hi; exact HG2.out)))
      clear hc hd hq hbk hw hrs hb3 ho3
      go_wp2_with (first | (refine wpList_valw rfl (exec_index rfl rfl rfl (HIX.out _)) ?_) | (refine wpList_valw rfl (HRM.out _ _ _ _ _ _ rfl rfl rfl) ?_) | (with_reducible refine wpList_loadL HLB.out rfl _ rfl rfl ?_) | (refine wpList_valw rfl (exec_xorB (c := d) (d := c) rfl rfl rfl) ?_) | (refine wpList_store rfl rfl 5 _ _ rfl (.pointer (some ⟨g2, q, none⟩)) (.int .u8 ((d ^^^ c).toNat : Int)) rfl rfl HRS.out ?_))
      go_roundw
      case rel => exact ⟨k + 1, by omega, by go_num, HB3.out, HW3.out⟩
      case measure => simp [intOf]; omega
    · obtain rfl : k = 32 := by omega
      have HB5 := Lib.hid hbk
      have HW := Lib.hid hw
      have HLD5 := Lib.hid (hbk.loads (P := Try.prog) Try.underlying45 rfl (hash_info1 _ (foldG_length _ _)))
      obtain ⟨fs, hfs⟩ : ∃ q, foldG s 32 = q := ⟨_, rfl⟩
      have hfl : fs.length = 20 := by rw [← hfs]; exact foldG_length _ _
      rw [hfs] at HB5 HLD5
      have HFS := Lib.hid hfs
      clear hbk hw hfs
      go_wp2_with (first | (with_reducible refine wpList_loadL HLD5.out rfl _ rfl rfl ?_) | ((with_reducible refine wpList_put rfl rfl 45 _ _ rfl g2 (hC fs) (hC fs) rfl rfl HB5.out (hash_info1 _ hfl) rfl (hC_one1 _) ?_); intro w7 hb7 hx7 _ _; have HB7 := Lib.hid hb7; have HX7 := Lib.hid (HW.out.trans (hx7.mono HG2.out)); clear hb7 hx7))
      exact post_row rfl rfl HB7.out Try.underlying45 rfl (hash_info1 _ hfl) rfl ⟨by rw [HFS.out], HX7.out⟩
end Go.Proofs.Ytgekpghjlhcpkaa
/-! hash.length: a number's bytes. -/
namespace Go.Proofs.Ytgekpghjlhcpkaa
open Go.RowKit Pl Go.Agg
set_option maxRecDepth 100000 in
set_option maxHeartbeats 8000000 in
theorem hlength_any (n : Nat) (hn : n ≤ 1099511627776) (w : World) : Calls Try.prog 73 #[.int .i64 (n : Int)] w fun e w' => ∃ v', e = .returned v' ∧ Own EB w.heap.size w' v' (encN n) ∧ Below w.heap.size w w' := by
  have HEL := Lib.hid (encN_len hn)
  go_enter Try.func73, Try.ntmps73
  go_wp2_with (first | (with_reducible refine wpList_zero rfl 95 rfl (mkC (.slice none 0 0)) (by kernel_rfl) ?_; intro g6 w1 hb hx hg; have HM1 := Lib.hid (⟨hb, Own.nil _ _ _⟩ : MkV g6 w1 (.slice none 0 0) []); have HX1 := Lib.hid hx; have HG1 := Lib.hid hg; clear hb hx hg) | (refine Agg.wpList_slice1 (E := EI) (base := w1.heap.size) rfl _ rfl n rfl (Nat.le_refl _) ?_; intro xs w2 hxs hx; have HXS := Lib.hid (Off.behind (w0 := w1) hxs.slice (fun k hk => (hxs.block k hk).1) HM1.out.blk.lt HM1.out.lt); have HM2 := Lib.hid (HM1.out.below hx); have HX2 := Lib.hid (Agg.belowThen HX1.out (Nat.le_refl _) hx); clear hxs hx))
  refine (num_any g6 _ xs [n] [] w2 (by intro m hm; simp only [List.mem_cons, List.not_mem_nil, or_false] at hm; omega) (by simp) (by simp) HXS.out HM2.out).mono ?_
  rintro e w3 ⟨rfl, v3, hm3, hs3⟩
  have HM3 := Lib.hid hm3
  have HX3 := Lib.hid (HX2.out.trans ((HM2.out.stepBelow hs3).mono HG1.out))
  clear hm3 hs3
  go_wp2_with fail
  refine (done_any g6 _ _ w3 (by have := HEL.out; simp; omega) HM3.out).mono ?_
  rintro e w4 ⟨v4, rfl, ho4, hx4⟩
  have HO4 := Lib.hid (ho4.lower HX3.out.size)
  have HX4 := Lib.hid (Agg.belowThen HX3.out (Nat.le_refl _) hx4)
  clear ho4 hx4
  go_wp2_with fail
  go_ret
  exact ⟨_, rfl, by simpa using HO4.out, HX4.out⟩
end Go.Proofs.Ytgekpghjlhcpkaa
/-! hash.Of: a tag's and parts' folded digest. -/
namespace Go.Sha
def encP (l : List UInt8) : List UInt8 := Go.Agg.encN l.length ++ l
/-- a tag's, and parts', bytes as they are summed -/
def hashL (tag : List UInt8) (ls : List (List UInt8)) : List UInt8 := encP tag ++ ls.flatMap encP
def hashP (tag : List UInt8) (ls : List (List UInt8)) : List (List UInt8) := [Go.Agg.encN tag.length, tag] ++ ls.flatMap fun b => [Go.Agg.encN b.length, b]
theorem hashP_flatten (tag : List UInt8) (ls : List (List UInt8)) : (hashP tag ls).flatten = hashL tag ls := by
  unfold hashP hashL encP
  rw [List.flatten_append]
  congr 1
  · simp
  · induction ls with
    | nil => rfl
    | cons b ls ih => simp [ih]
theorem hashP_length (tag : List UInt8) (ls : List (List UInt8)) : (hashP tag ls).length = 2 * ls.length + 2 := by
  unfold hashP
  rw [List.length_append]
  have : (ls.flatMap fun b => [Go.Agg.encN b.length, b]).length = 2 * ls.length := by
    induction ls with
    | nil => rfl
    | cons b ls ih => simp only [List.flatMap_cons, List.length_append, List.length_cons, List.length_nil, ih]; omega
  rw [this]; simp; omega
theorem hashP_snoc (tag : List UInt8) (ls : List (List UInt8)) (b : List UInt8) : hashP tag (ls ++ [b]) = hashP tag ls ++ [Go.Agg.encN b.length, b] := by
  simp [hashP, List.flatMap_append]
theorem flat_le : ∀ {ls : List (List UInt8)} {k : Nat} {b : List UInt8}, ls[k]? = some b → (encP b).length ≤ (ls.flatMap encP).length
  | [], k, b, h => by simp at h
  | c :: ls, 0, b, h => by
    obtain rfl : c = b := by simpa using h
    rw [List.flatMap_cons, List.length_append]; omega
  | c :: ls, k + 1, b, h => by
    have := flat_le (ls := ls) (k := k) (b := b) (by simpa using h)
    rw [List.flatMap_cons, List.length_append]; omega
theorem hashP_le (tag : List UInt8) {ls : List (List UInt8)} {k : Nat} {b : List UInt8} (h : ls[k]? = some b) : b.length ≤ (hashL tag ls).length := by
  have h2 := flat_le h
  have h3 : (encP b).length = (Go.Agg.encN b.length).length + b.length := by simp [encP]
  unfold hashL
  rw [List.length_append]
  omega
end Go.Sha
namespace Go.Proofs.Ytgekpghjlhcpkaa
open Go.RowKit Pl Go.Agg Go.Sha
/-- bytes in a block of bytes -/
def TypedB (w : World) (x : Value) (b : List UInt8) : Prop := SliceOf EB w x b ∧ (∀ k, x.ownBlock = some k → ∃ cs fr, w.heap[k]? = some (.cells cs 5 fr)) ∧ ∀ p n c, x = .slice p n c → n ≤ c
theorem TypedB.below {w w' : World} {x : Value} {b : List UInt8} (h : TypedB w x b) (hb : Below w.heap.size w w') : TypedB w' x b := by
  obtain ⟨h1, h2, h3⟩ := h
  exact ⟨h1.below hb, fun k hk => by obtain ⟨cs, fr, h⟩ := h2 k hk; exact ⟨cs, fr, Agg.keep' hb h⟩, h3⟩
theorem TypedB.keep {w w' : World} {x : Value} {b : List UInt8} (h : TypedB w x b) (hs : w.heap.size ≤ w'.heap.size) (hk : ∀ (g : Nat) (cs : Array Value) (fr : Nat × Nat), w.heap[g]? = some (Obj.cells cs 5 fr) → w'.heap[g]? = some (Obj.cells cs 5 fr)) : TypedB w' x b := by
  obtain ⟨h1, h2, h3⟩ := h
  refine ⟨?_, fun k hk' => by obtain ⟨cs, fr, h⟩ := h2 k hk'; exact ⟨cs, fr, hk _ _ _ h⟩, h3⟩
  rcases h1 with h | ⟨p, cap, rfl, hp, h⟩
  · exact .inl h
  · refine .inr ⟨p, cap, rfl, Nat.lt_of_lt_of_le hp hs, fun j u hj => ?_⟩
    obtain ⟨cs, fr, hc⟩ := h2 p.block rfl
    rw [← h j u hj]
    refine World.cell?_of_block ?_
    rw [add_block, hk _ _ _ hc, hc]
theorem TypedB.pushed {w w' : World} {x u : Value} {b : List UInt8} {B : Nat} (h : TypedB w x b) (hp : Pushed EBB B w w' u) : TypedB w' x b := h.keep hp.size fun g cs fr hc => hp.blk g _ _ _ (by show 5 ≠ 23; decide) hc
theorem TypedB.of_own {base : Nat} {w : World} {x : Value} {b : List UInt8} (h : Own EB base w x b) : TypedB w x b := by
  refine ⟨h.slice, fun k hk => ?_, ?_⟩
  · obtain ⟨_, cur, hc⟩ := h.block k hk
    exact ⟨_, _, hc⟩
  · intro p n c e
    obtain ⟨_, ⟨rfl, _⟩ | ⟨g, cap, cur, rfl, _, _, hnc, _⟩⟩ := h
    · injection e with _ h2 h3; omega
    · injection e with _ h2 h3; omega
theorem TypedB.of_new {w w' : World} {x : Value} {b : List UInt8} (h : NewBytes w w' x b) : TypedB w' x b := by
  refine ⟨h.slice, ?_, ?_⟩
  · obtain ⟨cap, fr, rfl, hc, hb, _⟩ := h
    intro k hk
    obtain rfl : w.heap.size = k := by simpa [Value.ownBlock] using hk
    exact ⟨_, _, hb⟩
  · obtain ⟨cap, fr, rfl, hc, hb, _⟩ := h
    intro p n c e
    injection e with _ h2 h3; omega
/-- a part: it lay there, or it is new -/
structure PartsK (w0 w : World) (vs : List SV) (ls : List (List UInt8)) : Prop where
  len : vs.length = ls.length
  part : ∀ (k : Nat) (s : SV) (b : List UInt8), vs[k]? = some s → ls[k]? = some b → (SliceOf EB w0 s.1 b ∧ ∀ p n c, s.1 = .slice p n c → n ≤ c) ∨ TypedB w s.1 b
theorem PartsK.below {w0 w w' : World} {vs : List SV} {ls : List (List UInt8)} (h : PartsK w0 w vs ls) (hb : Below w.heap.size w w') : PartsK w0 w' vs ls := ⟨h.len, fun k s b h1 h2 => (h.part k s b h1 h2).imp id fun h => h.below hb⟩
theorem PartsK.pushed {w0 w w' : World} {u : Value} {B : Nat} {vs : List SV} {ls : List (List UInt8)} (h : PartsK w0 w vs ls) (hp : Pushed EBB B w w' u) : PartsK w0 w' vs ls := ⟨h.len, fun k s b h1 h2 => (h.part k s b h1 h2).imp id fun h => h.pushed hp⟩
theorem PartsK.add {w0 w : World} {vs : List SV} {ls : List (List UInt8)} (h : PartsK w0 w vs ls) (s t : SV) (a b : List UInt8) (hs : (SliceOf EB w0 s.1 a ∧ ∀ p n c, s.1 = .slice p n c → n ≤ c) ∨ TypedB w s.1 a) (ht : (SliceOf EB w0 t.1 b ∧ ∀ p n c, t.1 = .slice p n c → n ≤ c) ∨ TypedB w t.1 b) : PartsK w0 w (vs ++ [s, t]) (ls ++ [a, b]) := by
  refine ⟨by simp [h.len], fun k x y h1 h2 => ?_⟩
  by_cases hk : k < vs.length
  · rw [List.getElem?_append_left hk] at h1
    rw [List.getElem?_append_left (by rw [← h.len]; exact hk)] at h2
    exact h.part k x y h1 h2
  · rw [List.getElem?_append_right (by omega)] at h1
    rw [List.getElem?_append_right (by rw [← h.len]; omega), ← h.len] at h2
    obtain ⟨j, hj⟩ : ∃ j, j = k - vs.length := ⟨_, rfl⟩
    rw [← hj] at h1 h2
    match j, h1, h2 with
    | 0, h1, h2 => simp at h1 h2; subst h1 h2; exact hs
    | 1, h1, h2 => simp at h1 h2; subst h1 h2; exact ht
    | j + 2, h1, h2 => simp at h1
theorem PartsK.nil (w0 w : World) : PartsK w0 w [] [] := ⟨rfl, fun k s b h => by simp at h⟩
theorem PartsK.at_ {w0 w : World} {v : Value} {vs : List SV} {ls : List (List UInt8)} (h : PartsK w0 w vs ls) (hr : SliceOf EBB w v vs) (hb : Below w0.heap.size w0 w) : PartsAt w v vs ls := ⟨hr, h.len, fun k s b h1 h2 => by
  rcases h.part k s b h1 h2 with ⟨h, hc⟩ | h
  · exact ⟨h.below hb, hc⟩
  · exact ⟨h.1, h.2.2⟩⟩
/-- '[]T{x, y}', of the call's own -/
theorem wpList_slice2O {P : Program} {α : Type} {E : Elem P α} {ops : Array Oper} {rest : List Oper} {o : Oper} {a : Act} {w : World} {Q : Exit → Act → World → Prop} {base : Nat} (hg : o.guard = none) (x y : Operand) (ho : o.op = .buildSlice E.st 2 #[(0, x), (1, y)]) (vx vy : α) (hx : a.eval x = E.val vx) (hy : a.eval y = E.val vy) (hbase : base ≤ w.heap.size)
    (h : ∀ v' w', Own E base w' v' [vx, vy] → Below w.heap.size w w' → wpList P ops Q rest (a.put o.dst v') w') : wpList P ops Q (o :: rest) a w := by
  refine wpList_val hg (v := .slice (some ⟨w.heap.size, 0, none⟩) 2 2) (w' := w.alloc (.cells ((E.val vx).cells ++ (E.val vy).cells) E.ty)) (by simp [execOp, ho, hx, hy, run_slice_two])
    (h _ _ ?_ ((Below.refl _ _).alloc (Nat.le_refl _) _))
  have hsx := E.size vx
  have hsy := E.size vy
  have e : E.flat [vx, vy] = ((E.val vx).cells ++ (E.val vy).cells).toList := by simp [Elem.flat, Elem.cs]
  have e2 : ((E.val vx).cells ++ (E.val vy).cells).toList.length = 2 * E.n := by rw [Array.toList_append, List.length_append, Array.length_toList, Array.length_toList, hsx, hsy]; omega
  refine ⟨by rw [e, e2]; rfl, .inr ⟨_, 2, _, rfl, hbase, heap_alloc_new w _, Nat.le_refl _, by simp [maxLen], by rw [Array.size_append, hsx, hsy]; omega, ?_⟩⟩
  rw [e, List.take_of_length_le (by rw [e2]; exact Nat.le_refl _)]
theorem str_lenH (s : List UInt8) (W : World) : (Builtin.len_ #[9] 3 #[.string ⟨s.toArray⟩]).run Try.prog W = .ok (.int .i64 (s.length : Int)) W := str_len' s W
theorem own_sv {w : World} {x : Value} {b : List UInt8} {base : Nat} (h : Own EB base w x b) : ∃ s : SV, s.1 = x := by
  obtain ⟨p, c, rfl⟩ := h.slice.form
  exact ⟨⟨_, _, _, _, rfl⟩, rfl⟩
theorem slice_sv {w : World} {x : Value} {b : List UInt8} (h : SliceOf EB w x b) : ∃ s : SV, s.1 = x := by
  obtain ⟨p, c, rfl⟩ := h.form
  exact ⟨⟨_, _, _, _, rfl⟩, rfl⟩
set_option maxRecDepth 100000 in
set_option maxHeartbeats 16000000 in
theorem of_any (tag : List UInt8) (v : Value) (vs : List SV) (ls : List (List UInt8)) (hlen : (hashL tag ls).length < 100000000) (hvn : vs.length ≤ 100000) (w : World) (hp : PartsAt w v vs ls) :
    Calls Try.prog 64 #[.string ⟨tag.toArray⟩, v] w fun e w' => e = .returned (.agg (hC (sumF (hashL tag ls)))) ∧ Below w.heap.size w w' := by
  have HPT := Lib.hid hp
  have hlv := fun W => parts_len hp.row W
  have hvl := hp.len
  have hlt := str_lenH tag
  have HTL := Lib.hid (show tag.length ≤ 1099511627776 by have h : (hashL tag ls).length = (encP tag).length + (ls.flatMap encP).length := List.length_append; have h2 : (encP tag).length = (encN tag.length).length + tag.length := List.length_append; omega)
  clear hp
  go_enter Try.func64, Try.ntmps64
  go_wp2_with (first | (with_reducible refine wpList_zero rfl 45 rfl (hC (List.replicate 20 0)) hash_zero1 ?_; intro g2 w1 hb hx hg; have HA1 := Lib.hid hb; have HX1 := Lib.hid hx; have HG2 := Lib.hid hg; clear hb hx hg))
  refine (hlength_any tag.length HTL.out w1).mono ?_
  rintro e w2 ⟨v2, rfl, ho2, hx2⟩
  obtain ⟨s2, hs2⟩ := own_sv ho2
  have HP2 := Lib.hid (TypedB.of_own ho2)
  have HA2 := Lib.hid (HA1.out.below hx2)
  have HX2 := Lib.hid (Agg.belowThen HX1.out (Nat.le_refl _) hx2)
  rw [← hs2] at HP2 ⊢
  clear hx2 ho2 hs2
  go_wp2_with (first | (with_reducible refine wpList_toBytes tag _ rfl rfl rfl ?_; intro v3 w3 hn3 hx3; obtain ⟨s3, hs3⟩ := slice_sv hn3.slice; have HT3 := Lib.hid (TypedB.of_new hn3); have HP3 := Lib.hid (HP2.out.below hx3); have HA3 := Lib.hid (HA2.out.below hx3); have HX3 := Lib.hid (Agg.belowThen HX2.out (Nat.le_refl _) hx3); rw [← hs3] at HT3 ⊢; clear hn3 hx3 hs3) | (refine wpList_slice2O (E := EBB) (base := w3.heap.size) rfl _ _ rfl s2 s3 rfl rfl (Nat.le_refl _) ?_; intro v4 w4 ho4 hx4; have HO4 := Lib.hid (ho4.lower HX3.out.size); have HA4 := Lib.hid (HA3.out.below hx4); have HX4 := Lib.hid (Agg.belowThen HX3.out (Nat.le_refl _) hx4); have HK4 := Lib.hid ((PartsK.nil w w4).add s2 s3 _ _ (.inr (HP3.out.below hx4)) (.inr (HT3.out.below hx4))); clear ho4 hx4))
  go_loopw [5, 16] (fun t i wr => ∃ (k : Nat) (us : List SV), k ≤ vs.length ∧ i = .int .i64 (k : Int) ∧ Own EBB w.heap.size wr t us ∧ PartsK w wr us (hashP tag (ls.take k)) ∧ Blk wr g2 45 (hC (List.replicate 20 0)) ∧ Below w.heap.size w wr) (fun _ i _ => vs.length - (intOf i).toNat)
  case atStart => exact ⟨0, [s2, s3], by omega, rfl, HO4.out, by simpa [hashP] using HK4.out, HA4.out, HX4.out⟩
  case round =>
    obtain ⟨wr1, rfl⟩ : ∃ y : World, y = wr := ⟨_, rfl⟩
    obtain ⟨k, us, hk, rfl, ho, hpk, hbk, hw⟩ := hrel
    have HO := Lib.hid ho
    have HPK := Lib.hid hpk
    have HBK := Lib.hid hbk
    have HW := Lib.hid hw
    have HUL := Lib.hid (show us.length = 2 * k + 2 by have := hpk.len; rw [hashP_length, List.length_take] at this; omega)
    clear hpk hbk hw ho
    by_cases hlt : k < vs.length
    · have hd1 : decide ((k : Int) < (vs.length : Int)) = true := by simp; omega
      obtain ⟨sv, hsv⟩ : ∃ y, vs[k]? = some y := ⟨_, List.getElem?_eq_getElem hlt⟩
      obtain ⟨b, hb⟩ : ∃ y, ls[k]? = some y := ⟨_, List.getElem?_eq_getElem (by omega)⟩
      obtain ⟨p, hadr, hld⟩ := part_at (SliceOf.below HPT.out.row HW.out) k sv hsv
      have HPB := Lib.hid (HPT.out.part k sv b hsv hb)
      have hlb := fun W => bytes_len HPB.out.1 W
      have HTK := Lib.hid (show hashP tag (ls.take (k + 1)) = hashP tag (ls.take k) ++ [encN b.length, b] by rw [List.take_add_one, hb, ← hashP_snoc]; rfl)
      have HBL := Lib.hid (show b.length ≤ 1099511627776 by have := hashP_le tag hb; omega)
      have HLD := Lib.hid hld
      clear hsv hb hld
      go_wp2_with (first | (with_reducible refine wpList_loadL HLD.out rfl _ rfl rfl ?_))
      refine (hlength_any b.length HBL.out wr1).mono ?_
      rintro e w5 ⟨v5, rfl, ho5, hx5⟩
      obtain ⟨s5, hs5⟩ := own_sv ho5
      have HP5 := Lib.hid (TypedB.of_own ho5)
      have HK5 := Lib.hid (HPK.out.below hx5)
      have HO5 := Lib.hid (HO.out.below hx5)
      have HA5 := Lib.hid (HBK.out.below hx5)
      have HX5 := Lib.hid (Agg.belowThen HW.out (Nat.le_refl _) hx5)
      rw [← hs5] at HP5 ⊢
      clear hx5 ho5 hs5
      go_wp2_with (first | (refine wpList_push2 (E := EBB) (base := w.heap.size) rfl rfl 25 rfl _ _ rfl _ rfl s5 sv rfl rfl (fun _ => rfl) (by simp) HO5.out (by have := HUL.out; omega) (by decide) HX5.out.size ?_; intro u6 v6 w6 ho6 hp6; have HO6 := Lib.hid ho6; have HK6 := Lib.hid ((HK5.out.pushed hp6).add s5 sv _ _ (.inr (HP5.out.pushed hp6)) (.inl HPB.out)); have HA6 := Lib.hid (hp6.blk g2 45 _ _ (by show 45 ≠ 23; decide) HA5.out); have HX6 := Lib.hid (HX5.out.trans (hp6.below w.heap.size (Nat.le_refl _) HX5.out.size)); clear ho6 hp6))
      go_roundw
      case rel => exact ⟨k + 1, us ++ [s5, sv], by omega, by go_num, HO6.out, by rw [HTK.out]; exact HK6.out, HA6.out, HX6.out⟩
      case measure => simp [intOf]; omega
    · obtain rfl : k = vs.length := by omega
      have HPA := Lib.hid (show PartsAt wr1 _ us (hashP tag ls) by have := HPK.out; rw [List.take_of_length_le (by omega)] at this; exact this.at_ HO.out.slice HW.out)
      go_wp2_with fail
      refine (hsum_any _ us (hashP tag ls) (by rw [hashP_flatten]; exact hlen) (by have := HUL.out; omega) wr1 HPA.out).mono ?_
      rintro e w6 ⟨rfl, hx6⟩
      rw [hashP_flatten]
      obtain ⟨dg, hdg⟩ : ∃ q, digest (hashL tag ls) = q := ⟨_, rfl⟩
      have hdl : dg.length = 32 := by rw [← hdg]; exact digest_length _
      have HDG := Lib.hid hdg
      have HA6 := Lib.hid (HBK.out.below hx6)
      have HW6 := Lib.hid (Agg.belowThen HW.out (Nat.le_refl _) hx6)
      rw [hdg]
      clear hx6 hdg
      go_wp2_with fail
      refine (fold_any dg hdl w6).mono ?_
      rintro e w7 ⟨rfl, hx7⟩
      have HA7 := Lib.hid (HA6.out.below hx7)
      have HW7 := Lib.hid (Agg.belowThen HW6.out (Nat.le_refl _) hx7)
      obtain ⟨fs, hfs⟩ : ∃ q, foldG dg 32 = q := ⟨_, rfl⟩
      have hfl : fs.length = 20 := by rw [← hfs]; exact foldG_length _ _
      have HFS := Lib.hid (show fs = sumF (hashL tag ls) by rw [← hfs, sumF, HDG.out])
      rw [hfs]
      clear hx7 hfs
      go_wp2_with (first | ((with_reducible refine wpList_put rfl rfl 45 _ _ rfl g2 (hC fs) (hC (List.replicate 20 0)) rfl rfl HA7.out (hash_info1 _ hfl) (by rw [hC_size, hC_size, hfl, List.length_replicate]) (hC_one1 _) ?_); intro w8 hb8 hx8 _ _; have HB8 := Lib.hid hb8; have HX8 := Lib.hid (HW7.out.trans (hx8.mono HG2.out)); clear hb8 hx8))
      exact post_row rfl rfl HB8.out Try.underlying45 rfl (hash_info1 _ hfl) rfl ⟨by rw [HFS.out], HX8.out⟩
end Go.Proofs.Ytgekpghjlhcpkaa
/-! Path{h, n} -/
namespace Go.Proofs.Ytgekpghjlhcpkaa
open Go.RowKit Pl Go.Agg
theorem pathBuilt : ∀ parts, Try.prog.built 47 parts = Instr.fill (#[(0, 20), (20, 1)][·]?) (pC z20 []) parts := fun _ => by kernel_rfl
theorem pC_splice0 (h h' n : List UInt8) (hl : h.length = 20) (hl' : h'.length = 20) : Go.Agg.splice (pC h n) 0 (hC h') = pC h' n := pC_setHash h h' n hl hl'
theorem pC_splice1 (h n n' : List UInt8) (hl : h.length = 20) : Go.Agg.splice (pC h n) 20 #[.string ⟨n'.toArray⟩] = pC h n' := by
  apply Array.ext'
  simp [Go.Agg.splice, pC, hC, Lib.byteCells, hl]
theorem build_path (h n : List UInt8) (hl : h.length = 20) (w : World) : (Instr.build 47 #[(0, .agg (hC h)), (1, .string ⟨n.toArray⟩)]).run Try.prog w = .ok (.agg (pC h n)) w := by
  refine run_build w _ _ _ ?_
  rw [pathBuilt]
  rw [fill_cons (off := 0) (size := 20) rfl (by simp [Value.cells, hC_size, hl]) (by rw [pC_size, z20_length]; omega)]
  rw [fill_cons (off := 20) (size := 1) rfl rfl (by rw [Go.Agg.splice_size _ _ _ (by simp [Value.cells, hC_size, pC_size, z20_length, hl]), pC_size, z20_length]; omega)]
  rw [fill_nil]
  exact congrArg some (by simp only [Value.cells]; rw [pC_splice0 _ _ _ z20_length hl, pC_splice1 _ _ _ hl])
end Go.Proofs.Ytgekpghjlhcpkaa
