/- Bytes and texts as elements. -/
import Derived.Test.YtpnolgliklmnmaaElem
import Derived.Test.YtpnolgliklmnmaaLetters
namespace Go.Proofs.Ytpnolgliklmnmaa
open Go.RowKit Pl Go.Agg
theorem info_of {P : Program} {ty : TypeId} {z : Value} {n b : Nat} (hz : (P.info? ty).map (·.zero) = some (some z)) (hs : (P.info? ty).map (·.size) = some n) (hb : (P.info? ty).map (·.bytes) = some b) :
    ∃ i, P.info? ty = some i ∧ i.zero = some z ∧ i.size = n ∧ i.bytes = b := by
  cases hi : P.info? ty with
  | none => rw [hi] at hz; cases hz
  | some i =>
    rw [hi] at hz hs hb
    exact ⟨i, rfl, Option.some.inj hz, Option.some.inj hs, Option.some.inj hb⟩
theorem one_of {cs : Array Value} (h : cs.all (·.oneCell') = true) (v : Value) (hv : v ∈ cs.toList) : v.oneCell' = true := by
  rw [Array.all_eq_true_iff_forall_mem] at h
  exact h v (by simpa using hv)
/-- bytes -/
def EB : Elem Try.prog UInt8 where
  ty := 5
  st := 23
  n := 1
  bytes := 1
  val := fun c => .int .u8 (c.toNat : Int)
  zero := .int .u8 0
  pos := by omega
  small := by omega
  size := fun x => rfl
  one := fun x v hv => by
    obtain rfl : v = .int .u8 (x.toNat : Int) := by simpa [Value.cells] using hv
    rfl
  zsize := rfl
  slice := by kernel_rfl
  info := info_of (by kernel_rfl) (by kernel_rfl) (by kernel_rfl)
  load := fun w a x hp h => LoadsL.of_cell (by have := h 0 _ rfl; rwa [show a.add 0 = a from rfl] at this) Try.underlying5 rfl
/-- texts -/
def ES : Elem Try.prog (List UInt8) where
  ty := 9
  st := 182
  n := 1
  bytes := 16
  val := fun s => .string ⟨s.toArray⟩
  zero := .string ⟨#[]⟩
  pos := by omega
  small := by omega
  size := fun x => rfl
  one := fun x v hv => by
    obtain rfl : v = .string ⟨x.toArray⟩ := by simpa [Value.cells] using hv
    rfl
  zsize := rfl
  slice := by kernel_rfl
  info := info_of (by kernel_rfl) (by kernel_rfl) (by kernel_rfl)
  load := fun w a x hp h => LoadsL.of_cell (by have := h 0 _ rfl; rwa [show a.add 0 = a from rfl] at this) Try.underlying9 rfl
abbrev BytesAt (w : World) (v : Value) (l : List UInt8) : Prop := SliceOf EB w v l
theorem bytes_len {w : World} {v : Value} {l : List UInt8} (h : BytesAt w v l) (W : World) : (Builtin.len_ #[23] 3 #[v]).run Try.prog W = .ok (.int .i64 (l.length : Int)) W := h.len W
theorem str_len' (s : List UInt8) (w : World) : (Builtin.len_ #[9] 3 #[.string ⟨s.toArray⟩]).run Try.prog w = .ok (.int .i64 (s.length : Int)) w := by
  rw [run_len_string w 9 3 _ Try.underlying9, Agg.bytes_size]; rfl
theorem byte_at {w : World} {v : Value} {l : List UInt8} (h : BytesAt w v l) (k : Nat) (x : UInt8) (hx : l[k]? = some x) :
    ∃ p : Addr, (∀ W, (Instr.indexAt 23 v (.int .i64 (k : Int))).run Try.prog W = .ok (.pointer (some p)) W) ∧ LoadsL Try.prog w 5 (some p) (.int .u8 (x.toNat : Int)) := by
  obtain ⟨p, h1, _, _, h4⟩ := h.at_ k x hx
  exact ⟨p, h1, h4⟩
end Go.Proofs.Ytpnolgliklmnmaa
