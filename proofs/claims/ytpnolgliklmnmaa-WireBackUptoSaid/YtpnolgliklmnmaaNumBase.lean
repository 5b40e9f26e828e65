/- Small facts about numbers. -/
import Derived.Test.YtpnolgliklmnmaaLetters
import Derived.BigQuiet
import Derived.Deep.QuietTactic
namespace Go.Proofs.Ytpnolgliklmnmaa
open Go.RowKit Pl
theorem ret_num {k : IntKind} {a b : Int} (h : a = b) : Ending.returned (.int k a) = .returned (.int k b) := by rw [h]
/-- 'within', under a name -/
def wi (c lo hi : Int) : Bool := decide (lo ≤ c) && decide (c ≤ hi)
theorem u8_lt (c : UInt8) : (c.toNat : Int) < 256 := by have := c.toNat_lt; omega
end Go.Proofs.Ytpnolgliklmnmaa
