/- spencekit.mark, markByte; slices of slices of bytes -/
import Derived.Test.YtpnolgliklmnmaaConv
import Derived.Test.YtpnolgliklmnmaaRooms
import Derived.StillTailTactics
namespace Go.Agg
open Go.RowKit
variable {P : Program}
theorem wpStill_loadL {w : World} {ops : Array Oper} {rest : List Oper} {o : Oper} {a : Act} {Q : Act → Prop} {ty : TypeId} {p : Option Addr} {v : Value} (h : LoadsL P w ty p v) (hw : Region.wanted o (yielded ops a.tmps) = true) (x : Operand) (ho : o.op = .load ty x) (hx : a.eval x = .pointer p)
    (hk : wpStill P ops w Q rest (a.put o.dst v)) : wpStill P ops w Q (o :: rest) a := wpStill_load hw ty x ho _ hx v h.now hk
theorem wpList_store {w w' : World} {ops : Array Oper} {rest : List Oper} {o : Oper} {a : Act} {Q : Exit → Act → World → Prop} (hg : o.guard = none) (hd : o.dst = none) (ty : TypeId) (x y : Operand) (ho : o.op = .store ty x y) (p v : Value) (hx : a.eval x = p) (hy : a.eval y = v)
    (hrun : (Instr.storeAt ty p v).run P w = .ok () w') (h : wpList P ops Q rest a w') : wpList P ops Q (o :: rest) a w := by
  refine wpList_skp hg hd ?_ h
  simp [execOp, ho, hx, hy, hrun]
end Go.Agg
namespace Go.Proofs.Ytpnolgliklmnmaa
open Go.RowKit Pl Go.Agg
theorem mark_any (k i : Nat) (hk : k ≤ 16777216) (hi : i ≤ 16777216) (w : World) : Calls Try.prog 68 #[.int .i64 (k : Int), .int .i64 (i : Int)] w fun e w' => e = .returned (.int .i64 ((1000003 * (k + 7) + i : Nat) : Int)) ∧ w = w' := by
  go_enter Try.func68, Try.ntmps68
  go_wp2_with fail
  go_ret
  exact ⟨by simp, rfl⟩
/-- the mark of a place -/
def mkB (k i : Nat) : UInt8 := UInt8.ofNat ((1000003 * (k + 7) + i) * 11400714819323198485 % 18446744073709551616 / 72057594037927936)
theorem mkB_int (k i : Nat) : IntKind.u64.wrap ((1000003 * ((k : Int) + 7) + (i : Int)) * 11400714819323198485) / 72057594037927936 % 256 = ((mkB k i).toNat : Int) := by
  have e : (1000003 * ((k : Int) + 7) + (i : Int)) * 11400714819323198485 = (((1000003 * (k + 7) + i) * 11400714819323198485 : Nat) : Int) := by simp
  rw [e]
  unfold mkB
  generalize (1000003 * (k + 7) + i) * 11400714819323198485 = n
  rw [show IntKind.u64.wrap (n : Int) = ((n % 18446744073709551616 : Nat) : Int) by simp [IntKind.wrap, IntKind.signed, IntKind.bits]]
  simp only [UInt8.toNat_ofNat']
  omega
theorem ret_u8 {a b : Int} (h : a = b) : Ending.returned (.int .u8 a) = .returned (.int .u8 b) := by rw [h]
theorem markByte_any (k i : Nat) (hk : k ≤ 16777216) (hi : i ≤ 16777216) (w : World) : Calls Try.prog 36 #[.int .i64 (k : Int), .int .i64 (i : Int)] w fun e w' => e = .returned (.int .u8 ((mkB k i).toNat : Int)) ∧ w' = w := by
  go_enter Try.func36, Try.ntmps36
  go_wp2_with fail
  refine (mark_any k i hk hi _).mono ?_
  rintro e w1 ⟨rfl, rfl⟩
  go_wp2_with fail
  go_ret
  exact ⟨ret_u8 (mkB_int k i), rfl⟩
def marks (k n : Nat) : List UInt8 := (List.range n).map (mkB k)
theorem marks_length (k n : Nat) : (marks k n).length = n := by simp [marks]
theorem marks_succ (k n : Nat) : marks k (n + 1) = marks k n ++ [mkB k n] := by simp [marks, List.range_succ]
theorem marks_get (k n i : Nat) (h : i < n) : (marks k n)[i]? = some (mkB k i) := by simp [marks, h]
def EBB : Elem Try.prog SV where
  ty := 23
  st := 22
  n := 1
  bytes := 24
  val := fun v => v.1
  zero := .slice none 0 0
  pos := by omega
  small := by omega
  size := fun v => by rw [sv_cells]; rfl
  one := fun v u hu => by
    rw [sv_cells] at hu
    obtain rfl : u = v.1 := by simpa using hu
    exact sv_one v
  zsize := rfl
  slice := by kernel_rfl
  info := info_of (by kernel_rfl) (by kernel_rfl) (by kernel_rfl)
  load := fun w a v hp h => LoadsL.of_cell (by have := h 0 v.1 (by rw [sv_cells]; rfl); rwa [show a.add 0 = a from rfl] at this) (by kernel_rfl : Try.prog.underlying 23 = some (.slice 5)) rfl
abbrev BBAt (w : World) (v : Value) (l : List SV) : Prop := SliceOf EBB w v l
theorem bb_len {w : World} {v : Value} {l : List SV} (h : BBAt w v l) (W : World) : (Builtin.len_ #[22] 3 #[v]).run Try.prog W = .ok (.int .i64 (l.length : Int)) W := h.len W
theorem bb_at {w : World} {v : Value} {l : List SV} (h : BBAt w v l) (k : Nat) (x : SV) (hx : l[k]? = some x) :
    ∃ p : Addr, (∀ W, (Instr.indexAt 22 v (.int .i64 (k : Int))).run Try.prog W = .ok (.pointer (some p)) W) ∧ LoadsL Try.prog w 23 (some p) x.1 := by
  obtain ⟨p, h1, _, _, h4⟩ := h.at_ k x hx
  exact ⟨p, h1, h4⟩
theorem RoomN.blen {w : World} {v : Value} {l : List UInt8} (h : RoomN EB w v l) (W : World) : (Builtin.len_ #[23] 3 #[v]).run Try.prog W = .ok (.int .i64 (l.length : Int)) W := h.slice.len W
end Go.Proofs.Ytpnolgliklmnmaa
