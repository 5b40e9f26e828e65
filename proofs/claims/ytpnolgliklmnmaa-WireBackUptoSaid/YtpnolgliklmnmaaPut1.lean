/- One cell of a block written. -/
import Derived.Test.YtpnolgliklmnmaaStep
import Derived.Test.YtpnolgliklmnmaaRoom
namespace Go.Agg
open Go.RowKit
variable {P : Program}
theorem Blk.set {w : World} {g : Nat} {t : TypeId} {cs : Array Value} (h : Blk w g t cs) (i : Nat) (v : Value) : Blk (w.setCell ⟨g, i, none⟩ v) g t (cs.setIfInBounds i v) := by
  unfold Blk at *
  simp [World.setCell, Array.getElem?_modify, h]
theorem Blk.run_put {w : World} {g : Nat} {t ty : TypeId} {cs : Array Value} (h : Blk w g t cs) (i : Nat) (hi : i < cs.size) (v : Value) (hv : v.cells = #[v]) (h1 : v.oneCell' = true) (hs : (P.info? ty).map (·.size) = some 1) :
    (Instr.storeAt ty (.pointer (some ⟨g, i, none⟩)) v).run P w = .ok () (w.setCell ⟨g, i, none⟩ v) := by
  have hst := run_storeCells_cells (P := P) g i v.cells.toList 0 w (fun j hj => by
    rw [hv] at hj
    obtain rfl : j = 0 := by simpa using hj
    rw [h.cell]
    simp [hi]) (fun j _ => frozen_of_row _ _ _ _ _ h) (by rw [hv]; simpa using h1)
  have hsz : (Go.sizeOf ty).run P w = .ok 1 w := by
    cases hq : P.info? ty with
    | none => simp [hq] at hs
    | some d =>
      have : d.size = 1 := by simpa [hq] using hs
      simp [Go.sizeOf, typeInfo, hq, this]
  rw [hv] at hst
  simp only [Nat.add_zero, World.setCells] at hst
  simp [Instr.storeAt, Instr.sureAddr, storeVar, hsz, hv, hst]
end Go.Agg
