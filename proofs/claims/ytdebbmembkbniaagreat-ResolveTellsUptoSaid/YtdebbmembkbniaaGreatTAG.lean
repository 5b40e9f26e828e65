/- slices.Backward at what was made: the iterator's contract. -/
import Derived.Test.YtdebbmembkbniaaGreatTAE
import Derived.Test.YtdebbmembkbniaaGreatTAD
import Derived.Test.YtdebbmembkbniaaGreatTAF
import Derived.WalkMore
namespace Go.Proofs.YtdebbmembkbniaaGreat
open Go.RowKit Go.Shelf Pl Go.Agg
attribute [local go_sem] Oper.semAt_some
def encIM (x : Nat × Md) : Array Value := #[.int .i64 (x.1 : Int), .agg (mC x.2)]
theorem md_atB {w : World} {v : Value} {l : List Md} (h : MdsAt w v l) (k : Nat) (x : Md) (hx : l[k]? = some x) :
  ∃ p : Addr, (∀ W, (Instr.indexAt 67 v (.int .i64 (k : Int))).run Tryz.prog W = .ok (.pointer (some p)) W) ∧ LoadsL Tryz.prog w 75 (some p) (.agg (mC x)) := by
 obtain ⟨p, h1, _, _, h4⟩ := h.at_ k x hx
 exact ⟨p, h1, h4⟩
theorem rev_step {l : List Md} {m : Nat} {x : Md} (hm : m < l.length) (h : l[m]? = some x) : l.reverse.take (l.length - m) = l.reverse.take (l.length - (m + 1)) ++ [x] := by
 have e : l.length - m = (l.length - (m + 1)) + 1 := by omega
 rw [e, List.take_add_one]
 congr 1
 rw [List.getElem?_reverse (by omega), show l.length - 1 - (l.length - (m + 1)) = m by omega, h]
 rfl
theorem slice_any {α : Type} {P : Program} {E : Elem P α} {w : World} {v : Value} {l : List α} (h : SliceOf E w v l) : l = [] ∨ ∀ b, v.ownBlock = some b → b < w.heap.size := by
 rcases h with ⟨_, _, _, h⟩ | ⟨p, c, rfl, hp, _⟩
 ·exact .inl h
 ·refine .inr fun b hb => ?_
  obtain rfl : p.block = b := by simpa [Value.ownBlock] using hb
  exact hp
theorem slice_stays {α : Type} {P : Program} {E : Elem P α} {B : Nat} {w w' : World} {v : Value} {l : List α} (h : SliceOf E w v l) (hb : l = [] ∨ ∀ b, v.ownBlock = some b → b < B) (hx : Below B w w') : SliceOf E w' v l := by
 rcases h with h | ⟨p, c, rfl, hp, hc⟩
 ·exact .inl h
 ·rcases hb with hb | hb
  ·obtain rfl := hb
   exact .inl ⟨_, _, rfl, rfl⟩
  ·exact SliceOf.belowAt (.inr ⟨p, c, rfl, hp, hc⟩) hx (fun q n d e => hb q.block (by rw [e]; rfl))
set_option maxRecDepth 100000 in
set_option maxHeartbeats 4000000 in
theorem back1_any (lp Bs n₀ : Nat) (v : Value) (l : List Md) (hn : l.length ≤ 1048576) (Kp : World → World → Prop) (hK : ∀ A B, Kp A B → Below n₀ A B ∧ B.heap[Bs]? = A.heap[Bs]?) (J Jx : List (Nat × Md) → World → Prop)
  (hY : ∀ pre x W, J pre W → pre.length < l.length → YieldAt Fence.wide 1 Tryz.prog lp (encIM x) W fun e W' =>
   (e = .returned (.bool true) ∧ J (pre ++ [x]) W' ∧ Kp W W') ∨ (e = .returned (.bool false) ∧ Jx (pre ++ [x]) W'))
  (W : World) (hBs : Blk W Bs 67 #[v]) (hl : MdsAt W v l) (hlb : l = [] ∨ ∀ b, v.ownBlock = some b → b < n₀) (h0 : J [] W) :
  CallsIn Fence.wide 2 Tryz.prog 154 #[.func (.yield lp) #[] #[], .pointer (some ⟨Bs, 0, none⟩)] W fun e W' => (∃ v, e = .returned v) ∧
   ((∃ ys, ys.map (·.2) = l.reverse ∧ J ys W') ∨ (∃ pre, True ∧ Jx pre W')) := by
 have HL := Lib.hid hl
 have HBS := Lib.hid hBs
 have hlen := fun W => mds_len hl W
 have HLB := Lib.hid (fun (w' : World) (hb : Below n₀ W w') => show MdsAt w' v l from slice_stays hl hlb hb)
 have HBB := Lib.hid (fun (w' : World) (hb : w'.heap[Bs]? = W.heap[Bs]?) => (show Blk w' Bs 67 #[v] from hb.trans hBs).one (P := Tryz.prog) (ty := 67) 0 rfl made_under rfl)
 clear hl hBs
 refine callsIn_of_wp Tryz.func154 rfl trivial ?_ rfl
 simp only [Tryz.ntmps154, List.size_toArray, List.length_cons, List.length_nil, Nat.reduceAdd, Nat.reduceSub, Array.replicate_succ, Array.replicate_zero, List.push_toArray, List.append_toArray, List.nil_append, List.cons_append]
 gi_wp2_with (first | (with_reducible refine wpListIn_loadL (HBB.out W rfl) wide_all rfl _ rfl rfl ?_))
 gi_loopw [3] (fun i wr => ∃ (m : Nat) (pre : List (Nat × Md)), m ≤ l.length ∧ i = .int .i64 ((m : Int) - 1) ∧ pre.length = l.length - m ∧ pre.map (·.2) = l.reverse.take (l.length - m) ∧ J pre wr ∧ Below n₀ W wr ∧ wr.heap[Bs]? = W.heap[Bs]?) (fun i _ => (intOf i + 1).toNat)
 case atStart => exact ⟨l.length, [], Nat.le_refl _, rfl, by simp, by simp, h0, Below.refl _ _, rfl⟩
 case round =>
  obtain ⟨m, pre, hm, rfl, hpl, hpm, hJ, hw, hwb⟩ := hrel
  have HPL := Lib.hid hpl
  have HPM := Lib.hid hpm
  have HJ := Lib.hid hJ
  have HW := Lib.hid hw
  have HWB := Lib.hid hwb
  clear hpl hpm hJ hw hwb h0
  rcases m with _ | m
  ·have HE := Lib.hid (show pre.map (·.2) = l.reverse by rw [HPM.out]; exact List.take_of_length_le (by simp))
   gi_wp2_with fail
   go_end0
   exact ⟨⟨_, rfl⟩, .inl ⟨pre, HE.out, HJ.out⟩⟩
  ·have hcm : (((m + 1 : Nat) : Int) - 1) = (m : Int) := by omega
   rw [hcm]
   clear hcm
   obtain ⟨x, hxk⟩ : ∃ x, l[m]? = some x := ⟨_, List.getElem?_eq_getElem (by omega)⟩
   obtain ⟨p, hadr, hld⟩ := md_atB (HLB.out wr HW.out) m x hxk
   have HLD := Lib.hid hld
   have HRS := Lib.hid (rev_step (by omega) hxk)
   have hd : decide (0 ≤ (m : Int)) = true := by simp
   obtain ⟨fn, tmps, assign, body, hy, hR⟩ := hY pre (m, x) wr HJ.out (by rw [HPL.out]; omega)
   dsimp only [encIM] at hy
   have HR := Lib.hid hR
   clear hld hxk hR
   gi_wp2_with (first | (with_reducible refine wpListIn_loadL (HBB.out _ HWB.out) wide_all rfl _ rfl rfl ?_) | (with_reducible refine wpListIn_loadL HLD.out wide_all rfl _ rfl rfl ?_))
   refine HR.out.mono ?_
   rintro e W3 (⟨rfl, hJ3, hk3⟩ | ⟨rfl, hJx3⟩)
   ·have HJ3 := Lib.hid hJ3
    have HK3 := Lib.hid (HW.out.trans (hK _ _ hk3).1)
    have HKB := Lib.hid ((hK _ _ hk3).2.trans HWB.out)
    clear hJ3 hk3
    gi_wp2_with fail
    go_roundw
    case rel => exact ⟨m, pre ++ [(m, x)], by omega, by go_num, by rw [List.length_append, HPL.out]; simp; omega, by rw [List.map_append, HPM.out, HRS.out]; rfl, HJ3.out, HK3.out, HKB.out⟩
    case measure => simp [intOf]
   ·have HJ3 := Lib.hid hJx3
    clear hJx3
    gi_wp2_with fail
    refine bodyPost_ret (results_none rfl _ _ _) rfl ?_
    exact ⟨⟨_, rfl⟩, .inr ⟨_, trivial, HJ3.out⟩⟩
theorem back_any (v : Value) (p : Option Addr) (n c : Nat) (hv : v = .slice p n c) (w : World) :
  Calls Tryz.prog 120 #[v] w fun e w' => ∃ g, e = .returned (.func (.func 154) #[] #[.pointer (some ⟨g, 0, none⟩)]) ∧ w.heap.size ≤ g ∧ Blk w' g 67 #[v] ∧ Below w.heap.size w w' := by
 subst hv
 go_enter Tryz.func120, Tryz.ntmps120
 go_wp2_with fail
 go_ret
 exact ⟨_, rfl, Nat.le_refl _, Blk.new _ _ _, (Below.refl _ _).alloc (Nat.le_refl _) _⟩
end Go.Proofs.YtdebbmembkbniaaGreat
