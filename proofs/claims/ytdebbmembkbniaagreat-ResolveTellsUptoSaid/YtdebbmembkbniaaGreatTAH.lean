/- Maps that a call makes: a look-up that does not ask whether it is there; what a new key leaves. (Several texts in one.) -/
import Derived.Test.YtdebbmembkbniaaGreatTAA
import Derived.Test.YtdebbmembkbniaaGreatTAB
import Derived.Test.YtdebbmembkbniaaGreatTAD
/-! A path as a map's key. -/
namespace Go.Proofs.YtdebbmembkbniaaGreat
open Go.RowKit Pl Go.Mp Go.Agg Go.Instr
theorem part_byte (h : List UInt8) (i : Nat) (hi : i < h.length) (w : World) : (Go.part 5 (hC h) i).run Tryz.prog w = .ok (.int .u8 (h[i].toNat : Int)) w := by
 unfold Go.part
 have : (isAgg 5).run Tryz.prog w = .ok false w := by kernel_rfl
 simp only [Sem.run_bind, this, Result.andThen_ok, Bool.false_eq_true, if_false, hC_get h i hi, Sem.run_pure]
theorem check_byte (e : Bool) (n : Nat) (k : Int) (w : World) : (checkKey e (n + 1) 5 (.int .u8 k)).run Tryz.prog w = .ok () w := by
 unfold checkKey
 rw [Sem.run_bind, run_underlying Tryz.underlying5 w]
 simp [Result.andThen]
theorem check_hash (e : Bool) (n : Nat) (h : List UInt8) (hl : h.length = 20) (w : World) : (checkKey e (n + 2) 43 (.agg (hC h))).run Tryz.prog w = .ok () w := by
 unfold checkKey
 rw [Sem.run_bind, run_underlying Tryz.underlying43 w]
 have hsz : ∀ w, (Go.sizeOf 5).run Tryz.prog w = .ok 1 w := fun w => by kernel_rfl
 simp only [Result.andThen_ok, Std.Legacy.Range.forIn_eq_forIn_range', Std.Legacy.Range.size, Nat.sub_zero, Nat.add_sub_cancel, Nat.div_one]
 have hall : ∀ i ∈ List.range' 0 20 1, i < h.length := fun i hi => by have := List.mem_range'_1.1 hi; omega
 generalize List.range' 0 20 1 = l at hall ⊢
 induction l with
 | nil => simp
 | cons i l ih =>
  simp only [List.forIn_cons, Sem.run_bind, hsz, Result.andThen_ok, Nat.mul_one, part_byte h i (hall i (by simp)), check_byte, Sem.run_pure]
  have := ih fun j hj => hall j (by simp [hj])
  simp only [Sem.run_bind, Sem.run_pure] at this ⊢
  exact this
theorem check_path (e : Bool) (n : Nat) (p : P20) (w : World) : (checkKey e (n + 3) 48 (pV p)).run Tryz.prog w = .ok () w := by
 unfold checkKey pV
 rw [Sem.run_bind, run_underlying pC_under w]
 simp only [Result.andThen_ok]
 rw [← Array.forIn_toList]
 have hf := path_fields
 generalize (Tryz.prog.fieldsOf 48).toList = fs at hf ⊢
 cases fs with
 | nil => exact absurd hf (by simp)
 | cons f1 fs =>
 cases fs with
 | nil => exact absurd hf (by simp)
 | cons f2 fs =>
 cases fs with
 | cons f3 fs => exact absurd hf (by simp)
 | nil =>
  simp only [List.map_cons, List.map_nil, List.cons.injEq, Prod.mk.injEq, and_true] at hf
  obtain ⟨⟨a1, a2, a3⟩, b1, b2, b3⟩ := hf
  have hstr : ∀ w, (checkKey e (n + 2) 9 (.string ⟨p.1.2.toArray⟩)).run Tryz.prog w = .ok () w := fun w => by
   unfold checkKey
   rw [Sem.run_bind, run_underlying Tryz.underlying9 w]
   simp [Result.andThen]
  simp [a1, a2, a3, b1, b2, b3, part_hash _ _ p.2, part_name _ _ p.2, check_hash e n _ p.2, hstr]
theorem bits_all (n : Nat) : ∀ (l : List Value), (∀ v ∈ l, sameBits n v v = true) → (l.zip l).all (fun (x, y) => sameBits n x y) = true
 | [], _ => rfl
 | v :: l, h => by
  simp only [List.zip_cons_cons, List.all_cons, Bool.and_eq_true]
  exact ⟨h v (by simp), bits_all n l fun u hu => h u (by simp [hu])⟩
theorem bits_path (n : Nat) (p : P20) : sameBits (n + 1) (pV p) (pV p) = true := by
 unfold pV sameBits
 simp only [beq_self_eq_true, Bool.true_and]
 refine bits_all n _ fun v hv => ?_
 simp only [pC, hC, Lib.byteCells, Array.toList_append, List.mem_append, List.mem_map] at hv
 rcases hv with ⟨c, _, rfl⟩ | hv
 ·unfold sameBits; simp
 ·obtain rfl : v = .string ⟨p.1.2.toArray⟩ := by simpa using hv
  unfold sameBits
  rw [beq_toListBytes]
  simp
set_option maxRecDepth 100000 in
theorem path_key : KeyEq Tryz.prog 48 pV where
 check := fun e p w => check_path e 9997 p w
 desc := ⟨_, pC_under, .inr ⟨fun a b => rfl, fun a b w => by
  have h := eql_path a.1.1 a.1.2 b.1.1 b.1.2 a.2 b.2 w
  rw [run_eql_struct] at h
  unfold Op.equal Op.maxDepth
  generalize hr : (Op.equalIn 10000 48 (.agg (pC a.1.1 a.1.2)) (.agg (pC b.1.1 b.1.2))).run Tryz.prog w = r at h
  unfold pV
  rw [hr]
  cases r with
  | ok x w' =>
   simp [Result.andThen] at h
   obtain ⟨rfl, rfl⟩ := h
   congr 1
   rw [Bool.eq_iff_iff]
   simp [Subtype.ext_iff, Prod.ext_iff]
  | halt x w' => simp [Result.andThen] at h⟩⟩
 bits := fun p => bits_path 9999 p
end Go.Proofs.YtdebbmembkbniaaGreat
/-! A hash as a map's key. -/
namespace Go.Proofs.YtdebbmembkbniaaGreat
open Go.RowKit Pl Go.Mp Go.Agg Go.Instr
def hV (h : H20) : Value := .agg (hC h.1)
theorem bits_hash (n : Nat) (h : H20) : sameBits (n + 1) (hV h) (hV h) = true := by
 unfold hV sameBits
 simp only [beq_self_eq_true, Bool.true_and]
 refine bits_all n _ fun v hv => ?_
 simp only [hC, Lib.byteCells, List.mem_map] at hv
 obtain ⟨c, _, rfl⟩ := hv
 unfold sameBits; simp
set_option maxRecDepth 100000 in
theorem hash_key : KeyEq Tryz.prog 43 hV where
 check := fun e h w => check_hash e 9998 h.1 h.2 w
 desc := ⟨_, Tryz.underlying43, .inr ⟨fun a b => rfl, fun a b w => by
  have h := eql_hash a.1 b.1 a.2 b.2 w
  rw [run_eql_struct] at h
  unfold Op.equal Op.maxDepth
  generalize hr : (Op.equalIn 10000 43 (.agg (hC a.1)) (.agg (hC b.1))).run Tryz.prog w = r at h
  unfold hV
  rw [hr]
  cases r with
  | ok x w' =>
   simp [Result.andThen] at h
   obtain ⟨rfl, rfl⟩ := h
   congr 1
   rw [Bool.eq_iff_iff]
   simp [Subtype.ext_iff]
  | halt x w' => simp [Result.andThen] at h⟩⟩
 bits := fun p => bits_hash 9999 p
end Go.Proofs.YtdebbmembkbniaaGreat
/-! Maps that a call makes: a look-up that does not ask whether it is there; what a new key leaves. -/
namespace Go.Mp
open Go.RowKit Go.Instr
section
variable {P : Program} {α β : Type} [DecidableEq α]
variable {ops : Array Oper} {rest : List Oper} {o : Oper} {a : Act} {w : World} {Q : Exit → Act → World → Prop}
omit [DecidableEq α] in
end
end Go.Mp
