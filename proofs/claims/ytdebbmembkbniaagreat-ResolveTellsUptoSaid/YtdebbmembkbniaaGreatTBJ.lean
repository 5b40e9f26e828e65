/- The example of chapter 20: its words. -/
import Derived.Test.YtdebbmembkbniaaGreatTBC
import Derived.Test.YtdebbmembkbniaaGreatTAK
namespace Go.Proofs.YtdebbmembkbniaaGreat
open Go.RowKit Pl Go.Agg Go.Sha
def hOne (c : UInt8) : H20 := ⟨c :: List.replicate 19 0, rfl⟩
def pOne (c d : UInt8) : P20 := ⟨(c :: List.replicate 19 0, [d]), rfl⟩
def i1 : Inp := (zP, hOne 7, true)
def i2 : Inp := (pOne 1 112, zH, false)
def n1 : Nam := ([120], i1)
def n2 : Nam := ([120], i2)
def d1 : Drv := ([97], [n1], [])
def d2 : Drv := ([97], [n2], [])
def m1 : List Md := [(hOne 7, pOne 1 112), (hOne 7, pOne 2 113)]
def x1 : Rin := ([120], pOne 1 112)
def r1 : Rv := ([97], [x1], [])
theorem of1 : ofP d1 m1 = (r1, 0) := by decide +kernel
theorem of2 : ofP d2 [] = (r1, 0) := by decide +kernel
theorem can1 : canRv r1 = true := by decide +kernel
theorem key1 : tagL tKey r1 ≠ z20 := by decide +kernel
theorem build_h7 (w : World) : (Instr.build 43 #[(0, .int .u8 7)]).run Tryz.prog w = .ok (.agg (hC (hOne 7).1)) w := by kernel_rfl
theorem build_h1 (w : World) : (Instr.build 43 #[(0, .int .u8 1)]).run Tryz.prog w = .ok (.agg (hC (hOne 1).1)) w := by kernel_rfl
theorem build_h2 (w : World) : (Instr.build 43 #[(0, .int .u8 2)]).run Tryz.prog w = .ok (.agg (hC (hOne 2).1)) w := by kernel_rfl
theorem build_i1 (w : World) : (Instr.build 70 #[(1, .agg (hC (hOne 7).1)), (2, .bool true)]).run Tryz.prog w = .ok (.agg (iC i1)) w := by kernel_rfl
theorem build_i2 (w : World) : (Instr.build 70 #[(0, .agg (pC (pOne 1 112).1.1 (pOne 1 112).1.2))]).run Tryz.prog w = .ok (.agg (iC i2)) w := by kernel_rfl
theorem build_n1 (w : World) : (Instr.build 73 #[(0, .string ⟨#[120]⟩), (1, .agg (iC i1))]).run Tryz.prog w = .ok (.agg (nmC n1)) w := by kernel_rfl
theorem build_n2 (w : World) : (Instr.build 73 #[(0, .string ⟨#[120]⟩), (1, .agg (iC i2))]).run Tryz.prog w = .ok (.agg (nmC n2)) w := by kernel_rfl
theorem build_m1 (w : World) : (Instr.build 75 #[(0, .agg (hC (hOne 7).1)), (1, .agg (pC (pOne 1 112).1.1 (pOne 1 112).1.2))]).run Tryz.prog w = .ok (.agg (mC (hOne 7, pOne 1 112))) w := by kernel_rfl
theorem build_m2 (w : World) : (Instr.build 75 #[(0, .agg (hC (hOne 7).1)), (1, .agg (pC (pOne 2 113).1.1 (pOne 2 113).1.2))]).run Tryz.prog w = .ok (.agg (mC (hOne 7, pOne 2 113))) w := by kernel_rfl
theorem build_dv (p : Option Addr) (n c : Nat) (w : World) : (Instr.build 66 #[(0, .string ⟨#[97]⟩), (1, .slice p n c)]).run Tryz.prog w = .ok (.agg #[.string ⟨#[97]⟩, .slice p n c, .slice none 0 0]) w := by kernel_rfl
theorem eql_x1 (w : World) : (binOp .eql 77 (.agg (riC x1)) (.agg (riC x1))).run Tryz.prog w = .ok (.bool true) w := by kernel_rfl
set_option maxRecDepth 100000 in
set_option maxHeartbeats 1000000 in
theorem path1_any (w : World) : Calls Tryz.prog 28 #[.int .i64 1, .string ⟨#[112]⟩] w fun e w' => e = .returned (.agg (pC (pOne 1 112).1.1 (pOne 1 112).1.2)) ∧ Below w.heap.size w w' := by
 have HBP := Lib.hid (build_path (hOne 1).1 [112] rfl)
 go_enter Tryz.func28, Tryz.ntmps28
 go_wp2_with (first | (with_reducible refine Agg.wpList_zero rfl 48 rfl (pC z20 []) pC_zero ?_; intro g4 w2 hb hx hg; have HA2 := Lib.hid hb; have HX2 := Lib.hid hx; have HG2 := Lib.hid hg; clear hb hx hg) | (with_reducible refine wpList_build1 43 0 _ rfl rfl (.int .u8 1) rfl (.agg (hC (hOne 1).1)) build_h1 ?_) | (with_reducible refine wpList_build2 48 0 _ 1 _ rfl rfl (.agg (hC (hOne 1).1)) (.string ⟨#[112]⟩) rfl rfl (.agg (pC (hOne 1).1 [112])) HBP.out ?_) | ((with_reducible refine wpList_put rfl rfl 48 _ _ rfl g4 (pC (hOne 1).1 [112]) (pC z20 []) rfl rfl HA2.out (pC_info _ _ (hOne 1).2) (by rw [pC_size, pC_size, (hOne 1).2, z20_length]) (pC_one _ _) ?_); intro w8 hb8 hx8 _ _))
 exact post_row rfl rfl hb8 pC_under rfl (pC_info _ _ (hOne 1).2) rfl ⟨rfl, HX2.out.trans (hx8.mono HG2.out)⟩
set_option maxRecDepth 100000 in
set_option maxHeartbeats 1000000 in
theorem path2_any (w : World) : Calls Tryz.prog 28 #[.int .i64 2, .string ⟨#[113]⟩] w fun e w' => e = .returned (.agg (pC (pOne 2 113).1.1 (pOne 2 113).1.2)) ∧ Below w.heap.size w w' := by
 have HBP := Lib.hid (build_path (hOne 2).1 [113] rfl)
 go_enter Tryz.func28, Tryz.ntmps28
 go_wp2_with (first | (with_reducible refine Agg.wpList_zero rfl 48 rfl (pC z20 []) pC_zero ?_; intro g4 w2 hb hx hg; have HA2 := Lib.hid hb; have HX2 := Lib.hid hx; have HG2 := Lib.hid hg; clear hb hx hg) | (with_reducible refine wpList_build1 43 0 _ rfl rfl (.int .u8 2) rfl (.agg (hC (hOne 2).1)) build_h2 ?_) | (with_reducible refine wpList_build2 48 0 _ 1 _ rfl rfl (.agg (hC (hOne 2).1)) (.string ⟨#[113]⟩) rfl rfl (.agg (pC (hOne 2).1 [113])) HBP.out ?_) | ((with_reducible refine wpList_put rfl rfl 48 _ _ rfl g4 (pC (hOne 2).1 [113]) (pC z20 []) rfl rfl HA2.out (pC_info _ _ (hOne 2).2) (by rw [pC_size, pC_size, (hOne 2).2, z20_length]) (pC_one _ _) ?_); intro w8 hb8 hx8 _ _))
 exact post_row rfl rfl hb8 pC_under rfl (pC_info _ _ (hOne 2).2) rfl ⟨rfl, HX2.out.trans (hx8.mono HG2.out)⟩
end Go.Proofs.YtdebbmembkbniaaGreat
