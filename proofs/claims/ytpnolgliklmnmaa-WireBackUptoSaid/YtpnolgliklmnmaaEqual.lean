/- '==' of hashes and of paths. -/
import Derived.Test.YtpnolgliklmnmaaPath
import Derived.Test.YtpnolgliklmnmaaParse
import Derived.Stop.BytesEq
namespace Go.Proofs.Ytpnolgliklmnmaa
open Go.RowKit Pl Go.Agg
set_option maxRecDepth 100000 in
theorem eqlIn_hash (d : Nat) (h h' : List UInt8) (hl : h.length = 20) (hl' : h'.length = 20) (w : World) : (Op.equalIn (d + 2) 42 (.agg (hC h)) (.agg (hC h'))).run Try.prog w = .ok (h == h') w :=
  run_equalIn_bytes w d 42 5 20 Try.underlying42 rfl (fun w => by kernel_rfl) h h' hl hl'
theorem eql_hash (h h' : List UInt8) (hl : h.length = 20) (hl' : h'.length = 20) (w : World) : (binOp .eql 42 (.agg (hC h)) (.agg (hC h'))).run Try.prog w = .ok (.bool (h == h')) w := by
  rw [run_eql_struct, eqlIn_hash 9998 h h' hl hl' w]; rfl
theorem path_fields : (Try.prog.fieldsOf 44).toList.map (fun f => (f.name, f.type, f.offset)) = [("Hash", 42, 0), ("Name", 9, 20)] := by kernel_rfl
theorem isAgg_hash (w : World) : (isAgg 42).run Try.prog w = .ok true w := by kernel_rfl
theorem isAgg_name (w : World) : (isAgg 9).run Try.prog w = .ok false w := by kernel_rfl
theorem size_hash (w : World) : (sizeOf 42).run Try.prog w = .ok 20 w := by kernel_rfl
theorem part_hash (h n : List UInt8) (hl : h.length = 20) (w : World) : (Go.part 42 (pC h n) 0).run Try.prog w = .ok (.agg (hC h)) w := by
  unfold Go.part
  simp only [Sem.run_bind, isAgg_hash, Result.andThen_ok, if_true, size_hash, Sem.run_pure]
  congr 2
  simp [pC, hC_size, hl]
theorem part_name (h n : List UInt8) (hl : h.length = 20) (w : World) : (Go.part 9 (pC h n) 20).run Try.prog w = .ok (.string ⟨n.toArray⟩) w := by
  unfold Go.part
  simp only [Sem.run_bind, isAgg_name, Result.andThen_ok, Bool.false_eq_true, if_false, pC_name h n hl, Sem.run_pure]
theorem eql_path (h n h' n' : List UInt8) (hl : h.length = 20) (hl' : h'.length = 20) (w : World) : (binOp .eql 44 (.agg (pC h n)) (.agg (pC h' n'))).run Try.prog w = .ok (.bool (h == h' && n == n')) w := by
  rw [run_eql_struct, run_equalIn_struct w 9999 44 _ _ pC_under (by kernel_rfl)]
  have hf := path_fields
  generalize (Try.prog.fieldsOf 44).toList = fs at hf ⊢
  cases fs with
  | nil => exact absurd hf (by simp)
  | cons f1 fs =>
  cases fs with
  | nil => exact absurd hf (by simp)
  | cons f2 fs =>
  cases fs with
  | cons f3 fs => exact absurd hf (by simp)
  | nil =>
    simp only [List.map_cons, List.map_nil, List.cons.injEq, Prod.mk.injEq, and_true] at hf
    obtain ⟨⟨a1, a2, a3⟩, b1, b2, b3⟩ := hf
    simp only [Op.eqFields, a1, a2, a3, b1, b2, b3, Sem.run_bind, Sem.run_ite, part_hash _ _ hl, part_hash _ _ hl', part_name _ _ hl, part_name _ _ hl', Result.andThen_ok, eqlIn_hash 9997 _ _ hl hl', run_equalIn_string w 9998 9 _ _ Try.underlying9, Agg.bytes_toList]
    cases h == h' <;> cases n == n' <;> simp
end Go.Proofs.Ytpnolgliklmnmaa
