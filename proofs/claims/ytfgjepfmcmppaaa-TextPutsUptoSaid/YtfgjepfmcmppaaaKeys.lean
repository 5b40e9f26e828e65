/- A path as a map's key. -/
import Derived.Test.YtfgjepfmcmppaaaEqual
import Derived.Test.YtfgjepfmcmppaaaOrder
namespace Go.Proofs.Ytfgjepfmcmppaaa
open Go.RowKit Pl Go.Mp Go.Agg Go.Instr
/-- a path whose hash has twenty bytes -/
abbrev P20 : Type := { p : List UInt8 × List UInt8 // p.1.length = 20 }
instance : Inhabited P20 := ⟨⟨(z20, []), rfl⟩⟩
def pV (p : P20) : Value := .agg (pC p.1.1 p.1.2)
theorem part_byte (h : List UInt8) (i : Nat) (hi : i < h.length) (w : World) : (Go.part 5 (hC h) i).run Try.prog w = .ok (.int .u8 (h[i].toNat : Int)) w := by
  unfold Go.part
  have : (isAgg 5).run Try.prog w = .ok false w := by kernel_rfl
  simp only [Sem.run_bind, this, Result.andThen_ok, Bool.false_eq_true, if_false, hC_get h i hi, Sem.run_pure]
theorem check_byte (e : Bool) (n : Nat) (k : Int) (w : World) : (checkKey e (n + 1) 5 (.int .u8 k)).run Try.prog w = .ok () w := by
  unfold checkKey
  rw [Sem.run_bind, run_underlying Try.underlying5 w]
  simp [Result.andThen]
theorem check_hash (e : Bool) (n : Nat) (h : List UInt8) (hl : h.length = 20) (w : World) : (checkKey e (n + 2) 38 (.agg (hC h))).run Try.prog w = .ok () w := by
  unfold checkKey
  rw [Sem.run_bind, run_underlying Try.underlying38 w]
  have hsz : ∀ w, (Go.sizeOf 5).run Try.prog w = .ok 1 w := fun w => by kernel_rfl
  simp only [Result.andThen_ok, Std.Legacy.Range.forIn_eq_forIn_range', Std.Legacy.Range.size, Nat.sub_zero, Nat.add_sub_cancel, Nat.div_one]
  have hall : ∀ i ∈ List.range' 0 20 1, i < h.length := fun i hi => by have := List.mem_range'_1.1 hi; omega
  generalize List.range' 0 20 1 = l at hall ⊢
  induction l with
  | nil => simp
  | cons i l ih =>
    simp only [List.forIn_cons, Sem.run_bind, hsz, Result.andThen_ok, Nat.mul_one, part_byte h i (hall i (by simp)), check_byte, Sem.run_pure]
    have := ih fun j hj => hall j (by simp [hj])
    simp only [Sem.run_bind, Sem.run_pure] at this ⊢
    exact this
theorem check_path (e : Bool) (n : Nat) (p : P20) (w : World) : (checkKey e (n + 3) 40 (pV p)).run Try.prog w = .ok () w := by
  unfold checkKey pV
  rw [Sem.run_bind, run_underlying pC_under w]
  simp only [Result.andThen_ok]
  rw [← Array.forIn_toList]
  have hf := path_fields
  generalize (Try.prog.fieldsOf 40).toList = fs at hf ⊢
  cases fs with
  | nil => exact absurd hf (by simp)
  | cons f1 fs =>
  cases fs with
  | nil => exact absurd hf (by simp)
  | cons f2 fs =>
  cases fs with
  | cons f3 fs => exact absurd hf (by simp)
  | nil =>
    simp only [List.map_cons, List.map_nil, List.cons.injEq, Prod.mk.injEq, and_true] at hf
    obtain ⟨⟨a1, a2, a3⟩, b1, b2, b3⟩ := hf
    have hstr : ∀ w, (checkKey e (n + 2) 9 (.string ⟨p.1.2.toArray⟩)).run Try.prog w = .ok () w := fun w => by
      unfold checkKey
      rw [Sem.run_bind, run_underlying Try.underlying9 w]
      simp [Result.andThen]
    simp [a1, a2, a3, b1, b2, b3, part_hash _ _ p.2, part_name _ _ p.2, check_hash e n _ p.2, hstr]
theorem bits_all (n : Nat) : ∀ (l : List Value), (∀ v ∈ l, sameBits n v v = true) → (l.zip l).all (fun (x, y) => sameBits n x y) = true
  | [], _ => rfl
  | v :: l, h => by
    simp only [List.zip_cons_cons, List.all_cons, Bool.and_eq_true]
    exact ⟨h v (by simp), bits_all n l fun u hu => h u (by simp [hu])⟩
theorem bits_path (n : Nat) (p : P20) : sameBits (n + 1) (pV p) (pV p) = true := by
  unfold pV sameBits
  simp only [beq_self_eq_true, Bool.true_and]
  refine bits_all n _ fun v hv => ?_
  simp only [pC, hC, Lib.byteCells, Array.toList_append, List.mem_append, List.mem_map] at hv
  rcases hv with ⟨c, _, rfl⟩ | hv
  · unfold sameBits; simp
  · obtain rfl : v = .string ⟨p.1.2.toArray⟩ := by simpa using hv
    unfold sameBits
    rw [beq_toListBytes]
    simp
set_option maxRecDepth 100000 in
theorem path_key : KeyEq Try.prog 40 pV where
  check := fun e p w => check_path e 9997 p w
  desc := ⟨_, pC_under, .inr ⟨fun a b => rfl, fun a b w => by
    have h := eql_path a.1.1 a.1.2 b.1.1 b.1.2 a.2 b.2 w
    rw [run_eql_struct] at h
    unfold Op.equal Op.maxDepth
    generalize hr : (Op.equalIn 10000 40 (.agg (pC a.1.1 a.1.2)) (.agg (pC b.1.1 b.1.2))).run Try.prog w = r at h
    unfold pV
    rw [hr]
    cases r with
    | ok x w' =>
      simp [Result.andThen] at h
      obtain ⟨rfl, rfl⟩ := h
      congr 1
      rw [Bool.eq_iff_iff]
      simp [Subtype.ext_iff, Prod.ext_iff]
    | halt x w' => simp [Result.andThen] at h⟩⟩
  bits := fun p => bits_path 9999 p
end Go.Proofs.Ytfgjepfmcmppaaa
