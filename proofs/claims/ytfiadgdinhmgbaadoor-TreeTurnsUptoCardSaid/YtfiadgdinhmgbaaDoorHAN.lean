/- Bytes and texts as elements. (Several texts in one.) -/
import Derived.Test.YtfiadgdinhmgbaaDoorHAB
import Derived.Test.YtfiadgdinhmgbaaDoorShelf
import Derived.Test.YtfiadgdinhmgbaaDoorHAA
/-! base.Letters: the letters of any hash. -/
namespace Go.Proofs.YtfiadgdinhmgbaaDoor
open Go.RowKit Pl
end Go.Proofs.YtfiadgdinhmgbaaDoor
/-! Bytes and texts as elements. -/
namespace Go.Proofs.YtfiadgdinhmgbaaDoor
open Go.RowKit Pl Go.Agg
def ES : Elem Tryd.prog (List UInt8) where
 ty := 9
 st := 37
 n := 1
 bytes := 16
 val := fun s => .string ⟨s.toArray⟩
 zero := .string ⟨#[]⟩
 pos := by omega
 small := by omega
 size := fun x => rfl
 one := fun x v hv => by
  obtain rfl : v = .string ⟨x.toArray⟩ := by simpa [Value.cells] using hv
  rfl
 zsize := rfl
 slice := by kernel_rfl
 info := info_of (by kernel_rfl) (by kernel_rfl) (by kernel_rfl)
 load := fun w a x hp h => LoadsL.of_cell (by have := h 0 _ rfl; rwa [show a.add 0 = a from rfl] at this) Tryd.underlying9 rfl
end Go.Proofs.YtfiadgdinhmgbaaDoor
