/- wire.Right of any request. -/
import Derived.Test.YtpnolgliklmnmaaRightW
import Derived.Test.YtpnolgliklmnmaaRightW2
import Derived.Test.YtpnolgliklmnmaaRightW3
namespace Go.Proofs.Ytpnolgliklmnmaa
open Go.RowKit Pl Go.Agg
theorem parts_cases (k : Int) : partsN k = 34 ∨ partsN k = 32 ∨ partsN k = 16 ∨ partsN k = 1 ∨ partsN k = 6 ∨ partsN k = 2 ∨ partsN k = 36 ∨ partsN k = 8 ∨ partsN k = 0 := by
  unfold partsN
  repeat' split
  all_goals simp
theorem right_any (k u wh : Int) (nm : List UInt8) (vb : Value) (bs ph pn ch : List UInt8) (hl : ph.length = 20) (hc : ch.length = 20) (w : World) (hb : BytesAt w vb bs) :
    Calls Try.prog 23 #[.agg (rqG k u wh nm vb ph pn ch)] w fun e w' => e = .returned (.bool (rightN k u wh nm bs.length ph pn ch)) ∧ Below w.heap.size w w' := by
  rcases parts_cases k with h | h | h | h | h | h | h | h | h
  · exact right_34 k u wh nm vb bs ph pn ch h hl hc w hb
  · exact right_32 k u wh nm vb bs ph pn ch h hl hc w hb
  · exact right_16 k u wh nm vb bs ph pn ch h hl hc w hb
  · exact right_1 k u wh nm vb bs ph pn ch h hl hc w hb
  · exact right_6 k u wh nm vb bs ph pn ch h hl hc w hb
  · exact right_2 k u wh nm vb bs ph pn ch h hl hc w hb
  · exact right_36 k u wh nm vb bs ph pn ch h hl hc w hb
  · exact right_8 k u wh nm vb bs ph pn ch h hl hc w hb
  · exact right_0 k u wh nm vb bs ph pn ch h hl hc w hb
end Go.Proofs.Ytpnolgliklmnmaa
