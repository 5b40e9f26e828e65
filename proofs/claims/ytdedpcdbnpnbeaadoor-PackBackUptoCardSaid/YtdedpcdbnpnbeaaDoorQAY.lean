/- A byte as an argument. -/
import Derived.Test.YtdedpcdbnpnbeaaDoorQAT
namespace Go.Proofs.YtdedpcdbnpnbeaaDoor
open Go.RowKit Pl Go.Agg Go.ChangeMaps Go.ChangeShapes Go.WideShapes
variable {H : Type} {enc : TypeId × Value → H} {w : World} {base : Nat} {sp : Nat → Bool} {held : Bool} {r : Reach} {b0 : Nat} {v : Value} {d : DataW H} {ps : List MemPlace}
set_option maxRecDepth 100000 in
theorem open_byteT (hval : Value.okWide Tryd.prog w r b0 5 v) (hd : DataW.Trod enc Tryd.prog w base sp held 5 v d ps) : ∃ x : UInt8, v = .int .u8 (x.toNat : Int) ∧ 0 ≤ Rows.uptoBulk d := by
  obtain ⟨fuel, hf⟩ := hd
  obtain ⟨k, h, _, hw⟩ := DataW.trod_int Tryd.underlying5 hf
  obtain ⟨y, rfl⟩ := okWide_int Tryd.underlying5 hval
  have hb := bounds_u8 hw
  refine ⟨UInt8.ofNat k.toNat, ?_, Nat.zero_le _⟩
  have e : ((UInt8.ofNat k.toNat).toNat : Int) = k := by simp; omega
  rw [e]
  simpa [Value.cells] using h
end Go.Proofs.YtdedpcdbnpnbeaaDoor
