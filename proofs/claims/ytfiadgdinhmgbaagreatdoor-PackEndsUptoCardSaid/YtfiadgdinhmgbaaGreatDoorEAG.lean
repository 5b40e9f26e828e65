/- strings.SplitSeq at "/": the iterator's contract. -/
import Derived.Test.YtfiadgdinhmgbaaGreatDoorEAC
import Derived.Test.YtfiadgdinhmgbaaGreatDoorEAD
import Derived.Test.YtfiadgdinhmgbaaGreatDoorEAA
import Derived.Test.YtfiadgdinhmgbaaGreatDoorEAE
import Derived.Test.YtfiadgdinhmgbaaGreatDoorShelf
import Derived.Test.YtfiadgdinhmgbaaGreatDoorEAF
import Derived.Lib.IndexLaws
namespace Go.Tr
theorem split_none {s : List UInt8} (h : Lib.indexByte s 47 = -1) : splitB s = [s] :=
 splitB_name s fun hm => by
  obtain ⟨k, hk⟩ := List.mem_iff_getElem?.1 hm
  exact Lib.indexByte_none h k hk
theorem split_some {s : List UInt8} {k : Nat} (h : Lib.indexByte s 47 = (k : Int)) : k < s.length ∧ splitB s = s.take k :: splitB (s.drop (k + 1)) := by
 obtain ⟨h1, h2⟩ := Lib.indexByte_some h
 obtain ⟨hlt, hk⟩ := List.getElem?_eq_some_iff.1 h1
 refine ⟨hlt, ?_⟩
 have e : s = s.take k ++ (47 :: s.drop (k + 1)) := by
  have := List.take_append_drop k s
  rw [List.drop_eq_getElem_cons hlt, hk] at this
  exact this.symm
 conv => lhs; rw [e]
 refine splitB_cons _ _ fun hm => ?_
 obtain ⟨j, hj⟩ := List.mem_iff_getElem?.1 hm
 rw [List.getElem?_take] at hj
 split at hj
 ·next hjk => exact h2 j hjk hj
 ·cases hj
end Go.Tr
namespace Go.Agg
open Go.RowKit
theorem wpListIn_store {F : Fence} {n : Nat} {P : Program} {ops : Array Oper} {rest : List Oper} {o : Oper} {a : Act} {w w' : World} {Q : Exit → Act → World → Prop} (hF : ∀ f, F.fn f) (hw : Region.wanted o (yielded ops a.tmps) = true) (hd : o.dst = none) (ty : TypeId) (x y : Operand) (ho : o.op = .store ty x y) (p v : Value) (hx : a.eval x = p) (hy : a.eval y = v)
  (hrun : (Instr.storeAt ty p v).run P w = .ok () w') (h : wpListIn F n P ops Q rest a w') : wpListIn F n P ops Q (o :: rest) a w :=
 wpListIn_skpR hF hw (by unfold Oper.plainB; rw [ho]) hd (by simp [execOp, ho, hx, hy, hrun]) h
end Go.Agg
namespace Go.Proofs.YtfiadgdinhmgbaaGreatDoor
open Go.RowKit Go.Shelf Pl Go.Agg Go.Tr
attribute [local go_sem] Oper.semAt_some
theorem run_idx0 (W : World) : (Instr.index 9 (.string ⟨#[47]⟩) (.int .i64 0)).run Tryz.prog W = .ok (.int .u8 47) W := by kernel_rfl
theorem eq_slash (s : List UInt8) (W : World) : (binOp .eql 9 (.string ⟨#[47]⟩) (.string ⟨s.toArray⟩)).run Tryz.prog W = .ok (.bool (decide (s = [47]))) W := by
 have e : (decide (s = [47])) = (([47] : List UInt8) == s) := by
  rw [Bool.eq_iff_iff, decide_eq_true_iff, beq_iff_eq]; exact ⟨fun h => h.symm, fun h => h.symm⟩
 rw [e]
 have h47 : (⟨#[47]⟩ : ByteArray) = ⟨([47] : List UInt8).toArray⟩ := rfl
 rw [h47]
 simp only [binOp, Op.stringOp, bytes_toList]
 first | rfl | simp
set_option maxRecDepth 100000 in
set_option maxHeartbeats 4000000 in
theorem sliteIndex_any (s : List UInt8) (w : World) :
  Calls Tryz.prog 141 #[.string ⟨s.toArray⟩, .string ⟨#[47]⟩] w fun e w' => e = .returned (.int .i64 (Lib.indexByte s 47)) ∧ w' = w := by
 have hi0 := run_idx0
 by_cases h : s = [47]
 ·subst h
  have heq := eq_slash [47]
  go_enter Tryz.func141, Tryz.ntmps141
  go_wp2_with fail
  go_ret
  exact ⟨rfl, rfl⟩
 ·have HNE := Lib.hid (show decide (([47] : List UInt8) = s) = false by simpa using fun e : [47] = s => h e.symm)
  clear h
  go_enter Tryz.func141, Tryz.ntmps141
  go_wp2_with (first | (refine wpList_eqlS (s := [47]) (r := s) rfl rfl rfl rfl false HNE.out ?_))
  refine (Tryz.stringslite_IndexByte ⟨s.toArray⟩ 47 w).mono ?_
  rintro e w1 ⟨rfl, rfl⟩
  go_wp2_with fail
  go_ret
  exact ⟨rfl, rfl⟩
set_option maxRecDepth 100000 in
theorem idxS_any (s : List UInt8) (w : World) :
  Calls Tryz.prog 137 #[.string ⟨s.toArray⟩, .string ⟨#[47]⟩] w fun e w' => e = .returned (.int .i64 (Lib.indexByte s 47)) ∧ w' = w := by
 go_enter Tryz.func137, Tryz.ntmps137
 go_wp2_with fail
 refine (sliteIndex_any s w).mono ?_
 rintro e w1 ⟨rfl, rfl⟩
 go_wp2_with fail
 go_ret
 exact ⟨rfl, rfl⟩
structure SpB (w : World) (gs gp gi : Nat) (s : List UInt8) : Prop where
 rest : Blk w gs 9 #[.string ⟨s.toArray⟩]
 sep : Blk w gp 9 #[.string ⟨#[47]⟩]
 save : Blk w gi 3 #[.int .i64 0]
 ne : gs ≠ gp ∧ gs ≠ gi
set_option maxRecDepth 100000 in
set_option maxHeartbeats 4000000 in
theorem splitSeq_any (s : List UInt8) (w : World) :
  Calls Tryz.prog 94 #[.string ⟨s.toArray⟩, .string ⟨#[47]⟩] w fun e w' => ∃ gs gp gi, e = .returned (.func (.func 135) #[] #[.pointer (some ⟨gp, 0, none⟩), .pointer (some ⟨gs, 0, none⟩), .pointer (some ⟨gi, 0, none⟩)]) ∧ SpB w' gs gp gi s ∧ w.heap.size ≤ gs ∧ w.heap.size ≤ gp ∧ w.heap.size ≤ gi ∧ Below w.heap.size w w' := by
 have h2 : Calls Tryz.prog 125 #[.string ⟨s.toArray⟩, .string ⟨#[47]⟩, .int .i64 0] w fun e w' => ∃ gs gp gi, e = .returned (.func (.func 135) #[] #[.pointer (some ⟨gp, 0, none⟩), .pointer (some ⟨gs, 0, none⟩), .pointer (some ⟨gi, 0, none⟩)]) ∧ SpB w' gs gp gi s ∧ w.heap.size ≤ gs ∧ w.heap.size ≤ gp ∧ w.heap.size ≤ gi ∧ Below w.heap.size w w' := by
  go_enter Tryz.func125, Tryz.ntmps125
  go_wp2_with fail
  go_ret
  have e1 : (w.alloc (Obj.cells #[Value.string ⟨s.toArray⟩] 9)).heap.size = w.heap.size + 1 := by simp
  have e2 : ((w.alloc (Obj.cells #[Value.string ⟨s.toArray⟩] 9)).alloc (Obj.cells #[Value.string ⟨#[47]⟩] 9)).heap.size = w.heap.size + 1 + 1 := by simp
  have b1 := Blk.new w 9 #[.string ⟨s.toArray⟩]
  have b2 := Blk.new (w.alloc (Obj.cells #[Value.string ⟨s.toArray⟩] 9)) 9 #[.string ⟨#[47]⟩]
  have b3 := Blk.new ((w.alloc (Obj.cells #[Value.string ⟨s.toArray⟩] 9)).alloc (Obj.cells #[Value.string ⟨#[47]⟩] 9)) 3 #[.int .i64 0]
  have x1 : Below w.heap.size w (w.alloc (Obj.cells #[Value.string ⟨s.toArray⟩] 9)) := (Below.refl _ _).alloc (Nat.le_refl _) _
  have x2 : Below (w.heap.size + 1) (w.alloc (Obj.cells #[Value.string ⟨s.toArray⟩] 9)) ((w.alloc (Obj.cells #[Value.string ⟨s.toArray⟩] 9)).alloc (Obj.cells #[Value.string ⟨#[47]⟩] 9)) := (Below.refl _ _).alloc (by rw [e1]; exact Nat.le_refl _) _
  have x3 : Below (w.heap.size + 1 + 1) ((w.alloc (Obj.cells #[Value.string ⟨s.toArray⟩] 9)).alloc (Obj.cells #[Value.string ⟨#[47]⟩] 9)) (((w.alloc (Obj.cells #[Value.string ⟨s.toArray⟩] 9)).alloc (Obj.cells #[Value.string ⟨#[47]⟩] 9)).alloc (Obj.cells #[Value.int .i64 0] 3)) := (Below.refl _ _).alloc (by rw [e2]; exact Nat.le_refl _) _
  rw [e1] at b2
  rw [e2] at b3
  refine ⟨w.heap.size, w.heap.size + 1, w.heap.size + 1 + 1, rfl, ⟨?_, ?_, b3, by omega, by omega⟩, by omega, by omega, by omega, (x1.trans (x2.mono (by omega))).trans (x3.mono (by omega))⟩
  ·exact (b1.belowAt (x2.mono (Nat.le_refl _)) (by omega)).belowAt x3 (by omega)
  ·exact b2.belowAt x3 (by omega)
 go_enter Tryz.func94, Tryz.ntmps94
 go_wp2_with fail
 refine h2.mono ?_
 rintro e w1 ⟨gs, gp, gi, rfl, h3⟩
 go_wp2_with fail
 go_ret
 exact ⟨gs, gp, gi, rfl, h3⟩
def KpS (gs gp gi : Nat) (A B : World) : Prop := B.heap[gs]? = A.heap[gs]? ∧ B.heap[gp]? = A.heap[gp]? ∧ B.heap[gi]? = A.heap[gi]?
def TpS (gs : Nat) (A B : World) : Prop := ∃ v, B = A.setCell ⟨gs, 0, none⟩ v
def encS (x : List UInt8) : Array Value := #[.string ⟨x.toArray⟩]
def leftS (gs : Nat) (w : World) : Nat := match w.cell? ⟨gs, 0, none⟩ with | some (.string s) => s.size | _ => 0
theorem leftS_eq {w : World} {gs : Nat} {s : List UInt8} (h : Blk w gs 9 #[.string ⟨s.toArray⟩]) : leftS gs w = s.length := by
 unfold leftS
 rw [h.cell]
 simp [bytes_size]
theorem SpB.keep {w w' : World} {gs gp gi : Nat} {s : List UInt8} (h : SpB w gs gp gi s) (hk : KpS gs gp gi w w') : SpB w' gs gp gi s := ⟨hk.1.trans h.rest, hk.2.1.trans h.sep, hk.2.2.trans h.save, h.ne⟩
theorem SpB.set {w : World} {gs gp gi : Nat} {s : List UInt8} (r : List UInt8) (h : SpB w gs gp gi s) : SpB (w.setCell ⟨gs, 0, none⟩ (.string ⟨r.toArray⟩)) gs gp gi r :=
 ⟨Agg.Blk.set h.rest 0 _, (Below.heap_setCell _ _ _ _ (fun e => h.ne.1 e.symm)).trans h.sep, (Below.heap_setCell _ _ _ _ (fun e => h.ne.2 e.symm)).trans h.save, h.ne⟩
set_option maxRecDepth 100000 in
set_option maxHeartbeats 8000000 in
theorem split_seq (gs gp gi : Nat) (s : List UInt8) (hs : s.length ≤ 1048576) (w : World) (hw : SpB w gs gp gi s) :
  SeqT Tryz.prog 135 #[.pointer (some ⟨gp, 0, none⟩), .pointer (some ⟨gs, 0, none⟩), .pointer (some ⟨gi, 0, none⟩)] encS (KpS gs gp gi) (TpS gs) (fun xs => xs = splitB s) (fun pre => ∃ r, splitB s = pre ++ r) (splitB s).length w := by
 intro lp J Jx W hbW hJT hY h0
 have hW : SpB W gs gp gi s := ⟨hw.rest.below hbW, hw.sep.below hbW, hw.save.below hbW, hw.ne⟩
 have HW := Lib.hid hW
 have HJT := Lib.hid hJT
 have HLp := Lib.hid (hW.sep.one (P := Tryz.prog) (ty := 9) 0 rfl Tryz.underlying9 rfl)
 clear hW hw
 refine callsIn_of_wp Tryz.func135 rfl trivial ?_ rfl
 simp only [Tryz.ntmps135, List.size_toArray, List.length_cons, List.length_nil, Nat.reduceAdd, Nat.reduceSub, Array.replicate_succ, Array.replicate_zero, List.push_toArray, List.append_toArray, List.nil_append, List.cons_append]
 gi_wp2_with (first | (with_reducible refine wpListIn_loadL HLp.out wide_all rfl _ rfl rfl ?_))
 gi_loopw [] (fun wr => ∃ (pre : List (List UInt8)) (rest : List UInt8), splitB s = pre ++ splitB rest ∧ rest.length ≤ 1048576 ∧ SpB wr gs gp gi rest ∧ J pre wr) (fun wr => leftS gs wr)
 case atStart => exact ⟨[], s, rfl, hs, HW.out, h0⟩
 case round =>
  obtain ⟨pre, rest, hsp, hrl, hb, hJ⟩ := hrel
  have HSP := Lib.hid hsp
  have HB := Lib.hid hb
  have HJ := Lib.hid hJ
  have HLr := Lib.hid (show LoadsL Tryz.prog wr 9 (some ⟨gs, 0, none⟩) (.string ⟨rest.toArray⟩) from hb.rest.one (P := Tryz.prog) 0 rfl Tryz.underlying9 rfl)
  have HLs := Lib.hid (show LoadsL Tryz.prog wr 9 (some ⟨gp, 0, none⟩) (.string ⟨#[47]⟩) from hb.sep.one (P := Tryz.prog) 0 rfl Tryz.underlying9 rfl)
  have HLi := Lib.hid (show LoadsL Tryz.prog wr 3 (some ⟨gi, 0, none⟩) (.int .i64 0) from hb.save.one (P := Tryz.prog) 0 rfl Tryz.underlying3 rfl)
  have hneS := splitB_ne rest
  have hlen : pre.length < (splitB s).length := by
   rw [hsp, List.length_append]
   have := List.length_pos_iff.2 hneS
   omega
  clear hsp hb hJ h0
  have hcall := idxS_any rest wr
  by_cases hi : Lib.indexByte rest 47 = -1
  ·rw [hi] at hcall
   have HC := Lib.hid hcall
   have HE := Lib.hid (split_none hi)
   clear hi hcall
   gi_wp2_with (first | (with_reducible refine wpListIn_loadL HLr.out wide_all rfl _ rfl rfl ?_) | (with_reducible refine wpListIn_loadL HLs.out wide_all rfl _ rfl rfl ?_))
   refine ⟨trivial, CallsIn.mono (callsIn_wide.2 HC.out) ?_⟩
   rintro e w1 ⟨rfl, rfl⟩
   obtain ⟨fn, tmps, assign, body, hy, hR⟩ := hY pre rest w1 HJ.out hlen
   dsimp only [encS] at hy
   have HR := Lib.hid hR
   clear hR hY
   gi_wp2_with (first | (with_reducible refine wpListIn_loadL HLr.out wide_all rfl _ rfl rfl ?_) | (with_reducible refine wpListIn_loadL HLs.out wide_all rfl _ rfl rfl ?_))
   refine HR.out.mono ?_
   rintro e W3 (⟨rfl, hJ3, hk3⟩ | ⟨rfl, hJx3⟩)
   ·have HJ3 := Lib.hid hJ3
    clear hJ3 hk3
    gi_wp2_with fail
    go_end0
    exact ⟨⟨_, rfl⟩, .inl ⟨pre ++ [rest], by rw [HSP.out, HE.out], HJ3.out⟩⟩
   ·have HJ3 := Lib.hid hJx3
    clear hJx3
    gi_wp2_with fail
    go_end0
    exact ⟨⟨_, rfl⟩, .inr ⟨_, ⟨[], by rw [HSP.out, HE.out]; simp⟩, HJ3.out⟩⟩
  ·obtain ⟨k, hk⟩ : ∃ k : Nat, Lib.indexByte rest 47 = (k : Int) := ⟨(Lib.indexByte rest 47).toNat, by have := Lib.indexByte_ge rest 47; omega⟩
   rw [hk] at hcall
   have HC := Lib.hid hcall
   obtain ⟨hkl, hsp⟩ := split_some hk
   have HE := Lib.hid hsp
   clear hi hcall hk hsp
   have hd : decide ((k : Int) < 0) = false := by simp
   have hs1 : ∀ W, (Instr.slice 9 (.string ⟨rest.toArray⟩) none (some (.int .i64 (k : Int))) none).run Tryz.prog W = .ok (.string ⟨(rest.take k).toArray⟩) W := fun W => slice_to W Tryz.underlying9 rest .i64 k (by omega)
   have hs2 : ∀ W, (Instr.slice 9 (.string ⟨rest.toArray⟩) (some (.int .i64 ((k : Int) + 1))) none none).run Tryz.prog W = .ok (.string ⟨(rest.drop (k + 1)).toArray⟩) W := fun W => by
    have := slice_from W Tryz.underlying9 rest .i64 (k + 1) (by omega)
    rwa [show ((k + 1 : Nat) : Int) = (k : Int) + 1 by omega] at this
   gi_wp2_with (first | (with_reducible refine wpListIn_loadL HLr.out wide_all rfl _ rfl rfl ?_) | (with_reducible refine wpListIn_loadL HLs.out wide_all rfl _ rfl rfl ?_))
   refine ⟨trivial, CallsIn.mono (callsIn_wide.2 HC.out) ?_⟩
   rintro e w1 ⟨rfl, rfl⟩
   obtain ⟨fn, tmps, assign, body, hy, hR⟩ := hY pre (rest.take k) w1 HJ.out hlen
   dsimp only [encS] at hy
   have HR := Lib.hid hR
   have HY := Lib.hid hY
   clear hR hY
   gi_wp2_with (first | (with_reducible refine wpListIn_loadL HLr.out wide_all rfl _ rfl rfl ?_) | (with_reducible refine wpListIn_loadL HLs.out wide_all rfl _ rfl rfl ?_) | (with_reducible refine wpListIn_loadL HLi.out wide_all rfl _ rfl rfl ?_))
   refine HR.out.mono ?_
   rintro e W3 (⟨rfl, hJ3, hk3⟩ | ⟨rfl, hJx3⟩)
   ·have HB3 := Lib.hid (HB.out.keep hk3)
    have HLr3 := Lib.hid (show LoadsL Tryz.prog W3 9 (some ⟨gs, 0, none⟩) (.string ⟨rest.toArray⟩) from HB3.out.rest.one (P := Tryz.prog) 0 rfl Tryz.underlying9 rfl)
    have HLs3 := Lib.hid (show LoadsL Tryz.prog W3 9 (some ⟨gp, 0, none⟩) (.string ⟨#[47]⟩) from HB3.out.sep.one (P := Tryz.prog) 0 rfl Tryz.underlying9 rfl)
    have HJ4 := Lib.hid (HJT.out _ _ _ hJ3 ⟨.string ⟨(rest.drop (k + 1)).toArray⟩, rfl⟩)
    have HST := Lib.hid (Agg.Blk.run_put (P := Tryz.prog) (ty := 9) HB3.out.rest 0 (by simp) (.string ⟨(rest.drop (k + 1)).toArray⟩) rfl rfl (by kernel_rfl))
    clear hJ3 hk3
    gi_wp2_with (first | (with_reducible refine wpListIn_loadL HLr3.out wide_all rfl _ rfl rfl ?_) | (with_reducible refine wpListIn_loadL HLs3.out wide_all rfl _ rfl rfl ?_) | (refine wpListIn_store wide_all rfl rfl 9 _ _ rfl _ _ rfl rfl HST.out ?_))
    go_roundw
    case rel => exact ⟨pre ++ [rest.take k], rest.drop (k + 1), by rw [HSP.out, HE.out]; simp, by rw [List.length_drop]; omega, HB3.out.set _, HJ4.out⟩
    case measure =>
     rw [leftS_eq (HB3.out.set (rest.drop (k + 1))).rest, leftS_eq HB.out.rest, List.length_drop]
     omega
   ·have HJ3 := Lib.hid hJx3
    clear hJx3
    gi_wp2_with fail
    refine bodyPost_ret (results_none rfl _ _ _) rfl ?_
    exact ⟨⟨_, rfl⟩, .inr ⟨_, ⟨splitB (rest.drop (k + 1)), by rw [HSP.out, HE.out]; simp⟩, HJ3.out⟩⟩
end Go.Proofs.YtfiadgdinhmgbaaGreatDoor
