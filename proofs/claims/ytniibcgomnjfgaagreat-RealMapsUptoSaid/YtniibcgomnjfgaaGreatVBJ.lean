/- A built as an argument. -/
import Derived.Test.YtniibcgomnjfgaaGreatVBI
namespace Go.Proofs.YtniibcgomnjfgaaGreat
open Go.RowKit Pl Go.Agg Go.ChangeMaps Go.ChangeShapes Go.WideShapes
theorem okWide_structH {P : Program} {w : World} {r : Reach} {base : Nat} {t : TypeId} {fs : Array Field} {v : Value} (ht : P.underlying t = some (.struct fs)) (h : Value.okWide P w r base t v) : ∃ cs, v = .agg cs := by
  unfold Value.okWide at h
  rw [ht] at h
  obtain ⟨cs, rfl, _⟩ := h
  exact ⟨cs, rfl⟩
set_option maxRecDepth 100000 in
theorem open_bu {H : Type} {enc : TypeId × Value → H} {w : World} {base : Nat} {sp : Nat → Bool} {held : Bool} {r : Reach} {b0 : Nat} {v : Value} {d : DataW H} {ps : List MemPlace} (hval : Value.okWide Tryz.prog w r b0 29 v) (hd : DataW.Trod enc Tryz.prog w base sp held 29 v d ps) :
    ∃ x : BuV, v = .agg (bC x) ∧ InsAt w x ∧ szBu x + 1 ≤ Rows.uptoBulk d := by
  obtain ⟨cs, rfl⟩ := okWide_structH bC_under hval
  obtain ⟨fuel, hf⟩ := hd
  obtain ⟨x, h1, h2, h3⟩ := open_bu_cells hf
  exact ⟨x, congrArg Value.agg (Array.ext' (by simpa [Value.cells] using h1)), h2, h3⟩
theorem bu_one {x : BuV} {d : Nat} (h : szBu x + 1 ≤ d) (hd : d ≤ 1048576) : x.1.ins.length ≤ 1048576 ∧ x.1.pa.1.2.length ≤ 1048576 ∧ ∀ m ∈ x.1.ins, m.2.1.2.length ≤ 1048576 := by
  have h1 : (x.1.ins.map szMd).sum + x.1.ins.length + x.1.pa.1.2.length + 1 ≤ d := h
  refine ⟨by omega, by omega, fun m hm => ?_⟩
  have h2 : m.2.1.2.length ≤ (x.1.ins.map szMd).sum := mem_sum _ _ (List.mem_map.2 ⟨m, hm, rfl⟩)
  omega
end Go.Proofs.YtniibcgomnjfgaaGreat
