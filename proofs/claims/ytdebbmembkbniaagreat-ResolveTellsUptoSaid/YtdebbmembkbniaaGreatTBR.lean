/- spencelaw20.ResolveTells. -/
import Derived.Test.YtdebbmembkbniaaGreatTAN
import Derived.Test.YtdebbmembkbniaaGreatTAX
import Derived.Test.YtdebbmembkbniaaGreatTBG
import Derived.Test.YtdebbmembkbniaaGreatTBI
import Derived.Test.YtdebbmembkbniaaGreatTBM
import Derived.Test.YtdebbmembkbniaaGreatTBC
import Derived.Test.YtdebbmembkbniaaGreatTBN
import Derived.Test.YtdebbmembkbniaaGreatTBO
import Derived.Test.YtdebbmembkbniaaGreatTBP
import Derived.Test.YtdebbmembkbniaaGreatTBQ
namespace Go.Agg
open Go.RowKit
variable {P : Program}
theorem exec_neqII {o : Oper} {a : Act} {w : World} {t u : TypeId} {x y : Operand} {k : IntKind} {m : Int} (ho : o.op = .binOp .neq t x y u) (hx : a.eval x = .int k m) (hy : a.eval y = .int k m) : (execOp a.eval o).run P w = .ok (.value (.bool false)) w := by
 simp only [execOp, ho, hx, hy]
 simp [eqGuard, binOp, Op.intCmp]
theorem own_inK {α : Type} {E : Elem P α} {base : Nat} {w : World} {v : Value} {l : List α} (h : Own E base w v l) : ∀ k, v.ownBlock = some k → base ≤ k ∧ k < w.heap.size := fun k hk => by
 obtain ⟨h1, cur, hc⟩ := h.block k hk
 exact ⟨h1, heap_lt hc⟩
theorem stepw_slice2T {α : Type} {E : Elem P α} {ops : Array Oper} {o : Oper} {a : Act} {w : World} {Q : Exit → Act → World → Prop} {K : Act → World → Prop} {F : Prop} (hw : Region.wanted o (yielded ops a.tmps) = true) (x y : Operand) (ho : o.op = .buildSlice E.st 2 #[(0, x), (1, y)]) (vx vy : α) (hx : a.eval x = E.val vx) (hy : a.eval y = E.val vy)
  (h : ∀ v' w', SliceOf E w' v' [vx, vy] → Below w.heap.size w w' → K (a.put o.dst v') w') : if Region.wanted o (yielded ops a.tmps) = true then o.wp P a w K Q else F :=
 stepw_val hw (v := .slice (some ⟨w.heap.size, 0, none⟩) 2 2) (w' := w.alloc (.cells ((E.val vx).cells ++ (E.val vy).cells) E.ty)) (by simp [execOp, ho, hx, hy, run_slice_two])
  (h _ _ (slice_of_block2 (Blk.new w E.ty _)) ((Below.refl _ _).alloc (Nat.le_refl _) _))
theorem two_len {α : Type} {a b : List α} {n : Nat} (ha : a.length ≤ n) (hb : b.length ≤ n) : ∀ j : Nat, ((([a] ++ [b])[j]?).getD []).length ≤ n := fun j => by
 match j with
 | 0 => exact ha
 | 1 => exact hb
 | j + 2 => simp
theorem four_len {α : Type} {a b c d : List α} {n : Nat} (ha : a.length ≤ n) (hb : b.length ≤ n) (hc : c.length ≤ n) (hd : d.length ≤ n) : ∀ j : Nat, (((([a] ++ [b]) ++ [c]) ++ [d])[j]?.getD []).length ≤ n := fun j => by
 match j with
 | 0 => exact ha
 | 1 => exact hb
 | 2 => exact hc
 | 3 => exact hd
 | j + 4 => simp
end Go.Agg
namespace Go.Proofs.YtdebbmembkbniaaGreat
open Go.RowKit Pl Go.Agg Go.Sha
theorem neqBT (b : Bool) (w : World) : (binOp .neq 4 (.bool b) (.bool b)).run Tryz.prog w = .ok (.bool false) w := by cases b <;> kernel_rfl
theorem exec_neqBT {o : Oper} {a : Act} {w : World} {x y : Operand} {b : Bool} {u : TypeId} (ho : o.op = .binOp .neq 4 x y u) (hx : a.eval x = .bool b) (hy : a.eval y = .bool b) : (execOp a.eval o).run Tryz.prog w = .ok (.value (.bool false)) w := by
 simp [execOp, ho, hx, hy, neqBT, eqGuard]
theorem own_svK {α : Type} {E : Elem Tryz.prog α} {base : Nat} {w : World} {v : Value} {l : List α} (h : Agg.Own E base w v l) : ∃ s : SV, v = s.1 := by
 obtain ⟨p, c, hf⟩ := h.slice.form
 exact ⟨⟨v, p, _, c, hf⟩, rfl⟩
theorem run_slice4 (s1 s2 s3 s4 : SV) (w : World) : (Instr.buildSlice 62 4 #[(0, s1.1), (1, s2.1), (2, s3.1), (3, s4.1)]).run Tryz.prog w = .ok (.slice (some ⟨w.heap.size, 0, none⟩) 4 4) (w.alloc (.cells #[s1.1, s2.1, s3.1, s4.1] 23)) := by
 obtain ⟨_, p1, n1, c1, rfl⟩ := s1
 obtain ⟨_, p2, n2, c2, rfl⟩ := s2
 obtain ⟨_, p3, n3, c3, rfl⟩ := s3
 obtain ⟨_, p4, n4, c4, rfl⟩ := s4
 kernel_rfl
theorem stepw_slice4T {ops : Array Oper} {o : Oper} {a : Act} {w : World} {Q : Exit → Act → World → Prop} {K : Act → World → Prop} {F : Prop} (hw : Region.wanted o (yielded ops a.tmps) = true) (x y z t : Operand) (ho : o.op = .buildSlice 62 4 #[(0, x), (1, y), (2, z), (3, t)]) (s1 s2 s3 s4 : SV) (hx : a.eval x = s1.1) (hy : a.eval y = s2.1) (hz : a.eval z = s3.1) (ht : a.eval t = s4.1)
  (h : ∀ v' w', SliceOf EBB w' v' [s1, s2, s3, s4] → Below w.heap.size w w' → K (a.put o.dst v') w') : if Region.wanted o (yielded ops a.tmps) = true then o.wp Tryz.prog a w K Q else F :=
 stepw_val hw (v := .slice (some ⟨w.heap.size, 0, none⟩) 4 4) (w' := w.alloc (.cells #[s1.1, s2.1, s3.1, s4.1] 23)) (by simp [execOp, ho, hx, hy, hz, ht, run_slice4])
  (h _ _ (.inr ⟨_, 4, rfl, (Blk.new w 23 _).lt, fun j u hj => by
   have e : EBB.flat [s1, s2, s3, s4] = [s1.1, s2.1, s3.1, s4.1] := by
    simp only [Elem.flat, Elem.cs, List.flatMap_cons, List.flatMap_nil, List.append_nil]
    show s1.1.cells.toList ++ (s2.1.cells.toList ++ (s3.1.cells.toList ++ s4.1.cells.toList)) = _
    rw [sv_cells, sv_cells, sv_cells, sv_cells]; rfl
   rw [e] at hj
   rw [add_plain, Nat.zero_add, (Blk.new w 23 _).cell, ← Array.getElem?_toList]; exact hj⟩) ((Below.refl _ _).alloc (Nat.le_refl _) _))
theorem lentO_slice {α : Type} {E : Elem Tryz.prog α} {M l : List α} {base : Nat} {w : World} {u : Value} (h : LentO E M base w u l) : SliceOf E w u l := by
 obtain ⟨g, cap, rfl, ho⟩ := h
 rcases ho.slice with ⟨p, c, hv, hl⟩ | ⟨p, c, hv, hp, hc⟩
 ·obtain ⟨rfl, _⟩ := List.append_eq_nil_iff.1 hl
  exact SliceOf.nil _ _ _
 ·simp only [Value.slice.injEq, Option.some.injEq] at hv
  obtain ⟨rfl, _, rfl⟩ := hv
  refine .inr ⟨_, _, rfl, hp, fun j u hj => hc j u ?_⟩
  rw [Elem.flat_append, List.getElem?_append_left (List.getElem?_eq_some_iff.1 hj).1]
  exact hj
theorem rising_lenT' : ∀ (R S : List P20), Rising R → (∀ q ∈ R, q ∈ S) → R.length ≤ S.length
 | [], _, _, _ => by simp
 | a :: t, S, hr, hm => by
  obtain ⟨h1, h2⟩ := List.pairwise_cons.1 hr
  have ha : a ∈ S := hm a (by simp)
  have h3 := rising_lenT' t (S.erase a) h2 fun q hq => by
   have hne : q ≠ a := fun e => by
    have := h1 q hq
    rw [e, lt20_irrefl] at this
    cases this
   exact (List.mem_erase_of_ne hne).2 (hm q (by simp [hq]))
  rw [List.length_erase_of_mem ha] at h3
  have h4 : 0 < S.length := List.length_pos_of_mem ha
  simp only [List.length_cons]
  omega
theorem rising_lenT {R : List P20} {l : List Rin} (h : Rising R) (hm : ∀ x, x ∈ R ↔ x ∈ l.map (·.2)) : R.length ≤ l.length := by
 have := rising_lenT' R (l.map (·.2)) h (fun q hq => (hm q).1 hq)
 rwa [List.length_map] at this
theorem samePathsT (v u : Value) {a b : List P20} (hab : a = b) (ha : a.length ≤ 1048576) (w : World) (he : ElemsAt w v a) (hf : ElemsAt w u b) :
  Calls Tryz.prog 23 #[v, u] w fun e w' => e = .returned (.bool true) ∧ Below w.heap.size w w' := by
 subst hab
 have := samePaths_any v u a a ha ha w he hf
 rwa [decide_eq_true rfl] at this
theorem getO_len (b : List UInt8) : (getO b).2.1.length ≤ 8 ∧ (getO b).2.2.length ≤ 1000 := by
 cases h : getRv b with
 | none => rw [(getO_none h).1]; exact ⟨by simp [zRv], by simp [zRv]⟩
 | some r =>
  rw [(getO_some h).1]
  have P := can_parts (put_get h).1
  exact ⟨P.inp, P.rcp⟩
structure SLaw (w5 : World) (g13 g17 : Nat) (gn : List UInt8) (gi hi gr hr : Value) (W : World) : Prop where
 k : Below w5.heap.size w5 W
 b13 : Blk W g13 25 (rsC gn gi gr)
 b17 : Blk W g17 25 (rsC gn hi hr)
set_option maxRecDepth 100000 in
set_option maxHeartbeats 64000000 in
theorem resolveTells_any (v u : Value) (r : Rv) (b : List UInt8) (hrv : RvLen r) (hrl : r.2.2.length ≤ 1048576) (hbl : b.length ≤ 1048576) (w : World) (hr : RvAt w v r) (hb : BytesAt w u b) :
  Calls Tryz.prog 3 #[v, u] w fun e w' => e = .returned (.bool true) ∧ Below w.heap.size w w' := by
 have hil : r.2.1.length ≤ 1048576 := hrv.2.1
 have hlb := bytes_len hb
 obtain ⟨la, hla⟩ : ∃ q, putRv r = q := ⟨_, rfl⟩
 have HLA := Lib.hid (show la.length ≤ 3000 by rw [← hla]; unfold putRv; split; exact putRs_len ‹_›; simp)
 obtain ⟨er, her⟩ : ∃ q, errRv r = q := ⟨_, rfl⟩
 obtain ⟨kh, hkh⟩ : ∃ q, tagL tKey r = q := ⟨_, rfl⟩
 have hkl : kh.length = 20 := by rw [← hkh]; exact tagL_length _ _
 obtain ⟨dh, hdh⟩ : ∃ q, dummyH r = q := ⟨_, rfl⟩
 have hdl : dh.length = 20 := by rw [← hdh]; exact tagL_length _ _
 obtain ⟨dn, hdn⟩ : ∃ q, dummyN r = q := ⟨_, rfl⟩
 obtain ⟨cb, hcb⟩ : ∃ q, canRv r = q := ⟨_, rfl⟩
 obtain ⟨ge, hge⟩ : ∃ q, getE b = q := ⟨_, rfl⟩
 obtain ⟨gn, gl, grc, hgo⟩ : ∃ gn gl grc, getO b = (gn, gl, grc) := ⟨_, _, _, rfl⟩
 have HGL := Lib.hid (show gl.length ≤ 8 ∧ grc.length ≤ 1000 by have := getO_len b; rwa [hgo] at this)
 have HPUT := Lib.hid (fun (v : Value) (W : World) (h : RvAt W v r) => (show Calls Tryz.prog 9 #[v] W fun e w' => ∃ v', e = .returned (.tuple #[v', .int .i64 (er : Int)]) ∧ Agg.Own EB W.heap.size w' v' la ∧ Below W.heap.size W w' by have := rput_any v r hil W h; rwa [hla, her] at this))
 have HPUT2 := Lib.hid (fun (v : Value) (W : World) (h : RfAt W v r) => (show Calls Tryz.prog 10 #[v] W fun e w' => ∃ v', e = .returned (.tuple #[v', .int .i64 (er : Int)]) ∧ Agg.Own EB W.heap.size w' v' la ∧ Below W.heap.size W w' by have := rfPut_any v r hrv W h; rwa [hla, her] at this))
 have HKEY := Lib.hid (fun (v : Value) (W : World) (h : RvAt W v r) => (show Calls Tryz.prog 14 #[v] W fun e w' => e = .returned (.tuple #[.agg (hC kh), .int .i64 (er : Int)]) ∧ Below W.heap.size W w' by have := rkey_any v r hil W h; rwa [hkh, her] at this))
 have HKEY2 := Lib.hid (fun (v : Value) (W : World) (h : RfAt W v r) => (show Calls Tryz.prog 15 #[v] W fun e w' => e = .returned (.tuple #[.agg (hC kh), .int .i64 (er : Int)]) ∧ Below W.heap.size W w' by have := rfKey_any v r hrv W h; rwa [hkh, her] at this))
 have HDUM := Lib.hid (fun (v : Value) (W : World) (h : RvAt W v r) => (show Calls Tryz.prog 16 #[v] W fun e w' => e = .returned (.tuple #[.agg (pC dh dn), .int .i64 (er : Int)]) ∧ Below W.heap.size W w' by have := rdummy_any v r hil W h; rwa [hdh, hdn, her] at this))
 have HDUM2 := Lib.hid (fun (v : Value) (W : World) (h : RfAt W v r) => (show Calls Tryz.prog 17 #[v] W fun e w' => e = .returned (.tuple #[.agg (pC dh dn), .int .i64 (er : Int)]) ∧ Below W.heap.size W w' by have := rfDummy_any v r hrv W h; rwa [hdh, hdn, her] at this))
 have HCAN := Lib.hid (fun (v : Value) (W : World) (h : RvAt W v r) => (show Calls Tryz.prog 18 #[v] W fun e w' => e = .returned (.bool cb) ∧ Below W.heap.size W w' by have := rsCan_any v r hil W h; rwa [hcb] at this))
 have HCAN2 := Lib.hid (fun (v : Value) (W : World) (h : RfAt W v r) => (show Calls Tryz.prog 19 #[v] W fun e w' => e = .returned (.bool cb) ∧ Below W.heap.size W w' by have := rfCan_any v r hrv W h; rwa [hcb] at this))
 have HGET := Lib.hid (fun (x : Value) (W : World) (h : BytesAt W x b) => (show Calls Tryz.prog 12 #[x] W fun e w' => ∃ vi vr, e = .returned (.tuple #[.agg (rsC gn vi vr), .int .i64 (ge : Int)]) ∧ Agg.Own ERi W.heap.size w' vi gl ∧ Agg.Own EB W.heap.size w' vr grc ∧ Below W.heap.size W w' by have := rget_any x b W (by omega) h; rwa [hgo, hge] at this))
 have HGET2 := Lib.hid (fun (x : Value) (W : World) (h : BytesAt W x b) => (show Calls Tryz.prog 13 #[x] W fun e w' => ∃ vi vr, e = .returned (.tuple #[.agg (rsC gn vi vr), .int .i64 (ge : Int)]) ∧ Agg.Own ERf W.heap.size w' vi gl ∧ Agg.Own EB W.heap.size w' vr grc ∧ Below W.heap.size W w' by have := rfGet_any x b W hbl h; rwa [hgo, hge] at this))
 have HSB := Lib.hid (fun (x y : Value) (l : List UInt8) (W : World) (hl : l.length ≤ 1048576) (h1 : BytesAt W x l) (h2 : BytesAt W y l) => (show Calls Tryz.prog 20 #[x, y] W fun e w' => e = .returned (.bool true) ∧ Below W.heap.size W w' by have := sameBytes_any x y l l hl hl W h1 h2; rwa [decide_eq_true rfl] at this))
 have HSM := Lib.hid (fun (x y : Value) (d : Rv) (h1 : d.2.1.length ≤ 1048576) (h2 : d.2.2.length ≤ 1048576) (W : World) (hx : RvAt W x d) (hy : RfAt W y d) => (show Calls Tryz.prog 21 #[x, y] W fun e w' => e = .returned (.bool true) ∧ Below W.heap.size W w' by have := same20_any x y d d h1 h2 h2 W hx hy; rwa [decide_eq_true rfl] at this))
 have HKN := Lib.hid (fun W => (show (binOp .neq 43 (.agg (hC kh)) (.agg (hC kh))).run Tryz.prog W = .ok (.bool false) W by have := neqH ⟨kh, hkl⟩ ⟨kh, hkl⟩ W; rwa [decide_eq_true rfl] at this))
 have HDN := Lib.hid (fun W => (show (binOp .neq 48 (.agg (pC dh dn)) (.agg (pC dh dn))).run Tryz.prog W = .ok (.bool false) W by have := neqP ⟨(dh, dn), hdl⟩ ⟨(dh, dn), hdl⟩ W; rwa [decide_eq_true rfl] at this))
 have HE1 := Lib.hid (enters_of Tryz.func18 (by kernel_rfl) rfl : ∀ args w, (callFunc 18 args).run Tryz.prog w = .ok (.enter 18 args) w)
 have HE2 := Lib.hid (enters_of Tryz.func11 (by kernel_rfl) rfl : ∀ args w, (callFunc 11 args).run Tryz.prog w = .ok (.enter 11 args) w)
 have HE3 := Lib.hid (enters_of Tryz.func19 (by kernel_rfl) rfl : ∀ args w, (callFunc 19 args).run Tryz.prog w = .ok (.enter 19 args) w)
 have HE4 := Lib.hid (enters_of Tryz.func20 (by kernel_rfl) rfl : ∀ args w, (callFunc 20 args).run Tryz.prog w = .ok (.enter 20 args) w)
 have HE5 := Lib.hid (enters_of Tryz.func21 (by kernel_rfl) rfl : ∀ args w, (callFunc 21 args).run Tryz.prog w = .ok (.enter 21 args) w)
 have HE6 := Lib.hid (enters_of Tryz.func22 (by kernel_rfl) rfl : ∀ args w, (callFunc 22 args).run Tryz.prog w = .ok (.enter 22 args) w)
 have HE7 := Lib.hid (enters_of Tryz.func24 (by kernel_rfl) rfl : ∀ args w, (callFunc 24 args).run Tryz.prog w = .ok (.enter 24 args) w)
 have HE8 := Lib.hid (enters_of Tryz.func23 (by kernel_rfl) rfl : ∀ args w, (callFunc 23 args).run Tryz.prog w = .ok (.enter 23 args) w)
 have HE9 := Lib.hid (enters_of Tryz.func25 (by kernel_rfl) rfl : ∀ args w, (callFunc 25 args).run Tryz.prog w = .ok (.enter 25 args) w)
 have HE10 := Lib.hid (enters_of Tryz.func26 (by kernel_rfl) rfl : ∀ args w, (callFunc 26 args).run Tryz.prog w = .ok (.enter 26 args) w)
 have HE11 := Lib.hid (enters_of Tryz.func27 (by kernel_rfl) rfl : ∀ args w, (callFunc 27 args).run Tryz.prog w = .ok (.enter 27 args) w)
 have HE12 := Lib.hid (enters_of Tryz.func6 (by kernel_rfl) rfl : ∀ args w, (callFunc 6 args).run Tryz.prog w = .ok (.enter 6 args) w)
 clear hla her hkh hdh hdn hcb hge hgo
 obtain ⟨vi, vr, rfl, hvi, hvr⟩ := hr
 have HRV := Lib.hid (show RvAt w (.agg #[.string ⟨r.1.toArray⟩, vi, vr]) r from ⟨vi, vr, rfl, hvi, hvr⟩)
 have HBV := Lib.hid hb
 clear hvi hvr hb
 go_enter Tryz.func3, Tryz.ntmps3
 go_wp2_with (first | (with_reducible refine wpList_box rfl 25 _ rfl (#[.string ⟨r.1.toArray⟩, vi, vr]) rfl ?_; intro g2 w1 hb hx1 hg; have HL1 := Lib.hid (RvB.of_blk hb); have HX1 := Lib.hid hx1; clear hb hx1 hg) | (with_reducible refine wpList_loadL HL1.out.all rfl _ rfl rfl ?_))
 refine (great20_any _ r hrv.1 hrl hrv.2.2 hil w1 (HRV.out.below HX1.out)).mono ?_
 rintro e w2 ⟨⟨gb, rfl⟩, hx2⟩
 have HX2 := Lib.hid (belowThen HX1.out (Nat.le_refl _) hx2)
 have HL2' := Lib.hid (HL1.out.below hx2)
 clear hx2
 have aw : ∀ W, Below w.heap.size w W → Calls Tryz.prog 6 #[] W fun e w' => e = .returned (.bool true) ∧ Below w.heap.size w w' := fun W h => (awake20_any W).mono fun e w' ⟨h1, h2⟩ => ⟨h1, belowThen h (Nat.le_refl _) h2⟩
 have AW := Lib.hid aw
 clear aw
 cases gb with
 | true =>
  go_wp2_with fail
  refine (AW.out _ HX2.out).mono ?_
  rintro e w3 ⟨rfl, hx3⟩
  go_wp2_with fail
  go_ret
  exact ⟨rfl, hx3⟩
 | false =>
 by_cases h3 : 3000 < b.length
 ·have hd3 : decide (3000 < (b.length : Int)) = true := by simp; omega
  go_wp2_with fail
  refine (AW.out _ HX2.out).mono ?_
  rintro e w3 ⟨rfl, hx3⟩
  go_wp2_with fail
  go_ret
  exact ⟨rfl, hx3⟩
 have hd3 : decide (3000 < (b.length : Int)) = false := by simp; omega
 go_wp2_with (first | (with_reducible refine wpList_loadL HL2'.out.all rfl _ rfl rfl ?_))
 refine (lent20_any _ r hil hrl w2 (HRV.out.below HX2.out)).mono ?_
 rintro e w3 ⟨ui, ur, rfl, ho, hl, hx3⟩
 have HUI3 := Lib.hid ho
 have HUR3 := Lib.hid hl
 have HX3 := Lib.hid (belowThen HX2.out (Nat.le_refl _) hx3)
 have HL3 := Lib.hid (HL2'.out.below hx3)
 clear ho hl hx3
 go_wp2_with fail
 refine (lentBytes_own u b hbl w3 (SliceOf.below HBV.out HX3.out)).mono ?_
 rintro e w4 ⟨u', rfl, hx4, hl⟩
 have HUI4 := Lib.hid (HUI3.out.below hx4)
 have HUR4 := Lib.hid (HUR3.out.below hx4)
 have HIN4 := Lib.hid hl
 have HX4 := Lib.hid (belowThen HX3.out (Nat.le_refl _) hx4)
 have HL4 := Lib.hid (HL3.out.below hx4)
 clear hx4 hl
 go_wp2_with (first | (refine wpList_new rfl rfl rfl 25 5 38 rfl rfl rfl (by decide) (rsC [] (.slice none 0 0) (.slice none 0 0)) (rsC r.1 ui ur) rsC_zero (rsC_ss _ _ _ _ _ _) (rsC_info _ _ _) (rsC_one _ HUI4.out.slice (lentO_slice HUR4.out)) rfl (by first | (simp; done) | simp [Act.put]) ?_; intro g5 w5 hb hx hg; have HL5 := Lib.hid (RvB.of_blk hb); have HL2 := Lib.hid (HL4.out.below hx); have HX5 := Lib.hid (belowThen HX4.out (Nat.le_refl _) hx); have RX := Lib.hid (show RvAt w5 (.agg (rsC r.1 ui ur)) r from ⟨ui, ur, rfl, SliceOf.below HUI4.out.slice hx, SliceOf.below (lentO_slice HUR4.out) hx⟩); have RV := Lib.hid (HRV.out.below HX5.out); have HIN := Lib.hid (HIN4.out.below hx); have BI := Lib.hid (lentO_slice HIN.out); have BV := Lib.hid (SliceOf.below HBV.out HX5.out); clear hb hx hg) | (with_reducible refine wpList_loadL HL5.out.all rfl _ rfl rfl ?_))
 have K_5 := Lib.hid (Below.refl w5.heap.size w5)
 clear HL1 HX1 HX2 HL2' HUI3 HUR3 HX3 HL3 HUI4 HUR4 HIN4 HX4 HL4 HRV HBV AW hd3 h3
 refine (HPUT.out _ w5 RX.out).mono ?_
 rintro e w6 ⟨va, rfl, ho, hx⟩
 obtain ⟨sa, rfl⟩ := own_svK ho
 have A_6 := Lib.hid ho
 have RA := Lib.hid (own_inK ho)
 clear ho
 have K_6 := Lib.hid (belowThen K_5.out (Nat.le_refl _) hx)
 have z_6 := hx.size
 clear hx
 go_wp2_with (first | (with_reducible refine wpList_loadL (HL2.out.below K_6.out).all rfl _ rfl rfl ?_))
 refine (ref20_any _ r hil w6 (RV.out.below K_6.out)).mono ?_
 rintro e w7 ⟨vq, rfl, hq, hx⟩
 have HQ := Lib.hid hq
 clear hq
 have A_7 := Lib.hid (A_6.out.below hx)
 have K_7 := Lib.hid (belowThen K_6.out (Nat.le_refl _) hx)
 have z_7 := hx.size
 clear hx
 go_wp2_with fail
 refine (HPUT2.out _ w7 HQ.out).mono ?_
 rintro e w8 ⟨vc, rfl, ho, hx⟩
 obtain ⟨sc, rfl⟩ := own_svK ho
 have C_8 := Lib.hid ho
 have RC := Lib.hid (own_inK ho)
 clear ho
 have A_8 := Lib.hid (A_7.out.below hx)
 have K_8 := Lib.hid (belowThen K_7.out (Nat.le_refl _) hx)
 have z_8 := hx.size
 clear hx
 go_wp2_with (first | (with_reducible refine wpList_loadL (HL5.out.below K_8.out).all rfl _ rfl rfl ?_))
 refine (HPUT.out _ w8 (RX.out.below K_8.out)).mono ?_
 rintro e w9 ⟨va2, rfl, ho, hx⟩
 obtain ⟨sa2, rfl⟩ := own_svK ho
 have D_9 := Lib.hid ho
 have RD := Lib.hid (own_inK ho)
 clear ho
 have A_9 := Lib.hid (A_8.out.below hx)
 have C_9 := Lib.hid (C_8.out.below hx)
 have K_9 := Lib.hid (belowThen K_8.out (Nat.le_refl _) hx)
 have z_9 := hx.size
 clear hx
 go_wp2_with fail
 refine (HGET.out _ w9 (BI.out.below K_9.out)).mono ?_
 rintro e w10 ⟨gi, gr, rfl, ho, hp, hx⟩
 have GI_10 := Lib.hid ho
 have RGI := Lib.hid (own_inK ho)
 clear ho
 obtain ⟨sg, rfl⟩ := own_svK hp
 have GR_10 := Lib.hid hp
 have RGR := Lib.hid (own_inK hp)
 clear hp
 have A_10 := Lib.hid (A_9.out.below hx)
 have C_10 := Lib.hid (C_9.out.below hx)
 have D_10 := Lib.hid (D_9.out.below hx)
 have K_10 := Lib.hid (belowThen K_9.out (Nat.le_refl _) hx)
 have z_10 := hx.size
 clear hx
 go_wp2_with (first | (refine wpList_new rfl rfl rfl 25 13 60 rfl rfl rfl (by decide) (rsC [] (.slice none 0 0) (.slice none 0 0)) (rsC gn gi sg.1) rsC_zero (rsC_ss _ _ _ _ _ _) (rsC_info _ _ _) (rsC_one _ GI_10.out.slice GR_10.out.slice) rfl (by first | (simp; done) | simp [Act.put]) ?_; intro g13 w11 hb hx hg; have X13_11 := Lib.hid hb; have HGX13 := Lib.hid (And.intro hg hb.lt); have A_11 := Lib.hid (A_10.out.below hx); have C_11 := Lib.hid (C_10.out.below hx); have D_11 := Lib.hid (D_10.out.below hx); have GI_11 := Lib.hid (GI_10.out.below hx); have GR_11 := Lib.hid (GR_10.out.below hx); have K_11 := Lib.hid (belowThen K_10.out (Nat.le_refl _) hx); have z_11 := hx.size; clear hb hx hg))
 refine (HGET2.out _ w11 (BV.out.below K_11.out)).mono ?_
 rintro e w12 ⟨di, dr, rfl, ho, hp, hx⟩
 have DI_12 := Lib.hid ho
 have RDI := Lib.hid (own_inK ho)
 clear ho
 have DR_12 := Lib.hid hp
 have RDR := Lib.hid (own_inK hp)
 clear hp
 have A_12 := Lib.hid (A_11.out.below hx)
 have C_12 := Lib.hid (C_11.out.below hx)
 have D_12 := Lib.hid (D_11.out.below hx)
 have GI_12 := Lib.hid (GI_11.out.below hx)
 have GR_12 := Lib.hid (GR_11.out.below hx)
 have X13_12 := Lib.hid (X13_11.out.below hx)
 have K_12 := Lib.hid (belowThen K_11.out (Nat.le_refl _) hx)
 have z_12 := hx.size
 clear hx
 go_wp2_with (first | (refine wpList_new rfl rfl rfl 36 15 65 rfl rfl rfl (by decide) (rsC [] (.slice none 0 0) (.slice none 0 0)) (rsC gn di dr) rfsC_zero (rsC_ss _ _ _ _ _ _) (rfsC_info _ _ _) (rfsC_one _ DI_12.out.slice DR_12.out.slice) rfl (by first | (simp; done) | simp [Act.put]) ?_; intro g15 w13 hb hx hg; have X15_13 := Lib.hid hb; have HGX15 := Lib.hid (And.intro hg hb.lt); have A_13 := Lib.hid (A_12.out.below hx); have C_13 := Lib.hid (C_12.out.below hx); have D_13 := Lib.hid (D_12.out.below hx); have GI_13 := Lib.hid (GI_12.out.below hx); have GR_13 := Lib.hid (GR_12.out.below hx); have X13_13 := Lib.hid (X13_12.out.below hx); have DI_13 := Lib.hid (DI_12.out.below hx); have DR_13 := Lib.hid (DR_12.out.below hx); have K_13 := Lib.hid (belowThen K_12.out (Nat.le_refl _) hx); have z_13 := hx.size; clear hb hx hg))
 refine (HGET.out _ w13 (BI.out.below K_13.out)).mono ?_
 rintro e w14 ⟨hi_, hr_, rfl, ho, hp, hx⟩
 have HI_14 := Lib.hid ho
 have RHI := Lib.hid (own_inK ho)
 clear ho
 obtain ⟨sh, rfl⟩ := own_svK hp
 have HR_14 := Lib.hid hp
 have RHR := Lib.hid (own_inK hp)
 clear hp
 have A_14 := Lib.hid (A_13.out.below hx)
 have C_14 := Lib.hid (C_13.out.below hx)
 have D_14 := Lib.hid (D_13.out.below hx)
 have GI_14 := Lib.hid (GI_13.out.below hx)
 have GR_14 := Lib.hid (GR_13.out.below hx)
 have X13_14 := Lib.hid (X13_13.out.below hx)
 have DI_14 := Lib.hid (DI_13.out.below hx)
 have DR_14 := Lib.hid (DR_13.out.below hx)
 have X15_14 := Lib.hid (X15_13.out.below hx)
 have K_14 := Lib.hid (belowThen K_13.out (Nat.le_refl _) hx)
 have z_14 := hx.size
 clear hx
 go_wp2_with (first | (refine wpList_new rfl rfl rfl 25 17 70 rfl rfl rfl (by decide) (rsC [] (.slice none 0 0) (.slice none 0 0)) (rsC gn hi_ sh.1) rsC_zero (rsC_ss _ _ _ _ _ _) (rsC_info _ _ _) (rsC_one _ HI_14.out.slice HR_14.out.slice) rfl (by first | (simp; done) | simp [Act.put]) ?_; intro g17 w15 hb hx hg; have X17_15 := Lib.hid hb; have HGX17 := Lib.hid (And.intro hg hb.lt); have A_15 := Lib.hid (A_14.out.below hx); have C_15 := Lib.hid (C_14.out.below hx); have D_15 := Lib.hid (D_14.out.below hx); have GI_15 := Lib.hid (GI_14.out.below hx); have GR_15 := Lib.hid (GR_14.out.below hx); have X13_15 := Lib.hid (X13_14.out.below hx); have DI_15 := Lib.hid (DI_14.out.below hx); have DR_15 := Lib.hid (DR_14.out.below hx); have X15_15 := Lib.hid (X15_14.out.below hx); have HI_15 := Lib.hid (HI_14.out.below hx); have HR_15 := Lib.hid (HR_14.out.below hx); have K_15 := Lib.hid (belowThen K_14.out (Nat.le_refl _) hx); have z_15 := hx.size; clear hb hx hg) | (with_reducible refine wpList_loadL (HL5.out.below K_15.out).all rfl _ rfl rfl ?_))
 refine (HKEY.out _ w15 (RX.out.below K_15.out)).mono ?_
 rintro e w16 ⟨rfl, hx⟩
 have A_16 := Lib.hid (A_15.out.below hx)
 have C_16 := Lib.hid (C_15.out.below hx)
 have D_16 := Lib.hid (D_15.out.below hx)
 have GI_16 := Lib.hid (GI_15.out.below hx)
 have GR_16 := Lib.hid (GR_15.out.below hx)
 have X13_16 := Lib.hid (X13_15.out.below hx)
 have DI_16 := Lib.hid (DI_15.out.below hx)
 have DR_16 := Lib.hid (DR_15.out.below hx)
 have X15_16 := Lib.hid (X15_15.out.below hx)
 have HI_16 := Lib.hid (HI_15.out.below hx)
 have HR_16 := Lib.hid (HR_15.out.below hx)
 have X17_16 := Lib.hid (X17_15.out.below hx)
 have K_16 := Lib.hid (belowThen K_15.out (Nat.le_refl _) hx)
 have z_16 := hx.size
 clear hx
 go_wp2_with (first | (refine wpList_new rfl rfl rfl 43 19 75 rfl rfl rfl (by decide) (hC z20) (hC kh) hash_zero2 (by rw [hC_size, hC_size, hkl, z20_length]) (hash_info1 _ hkl) (hC_one1 _) rfl (by first | (simp; done) | simp [Act.put]) ?_; intro g19 w17 hb hx hg; have X19_17 := Lib.hid hb; have HGX19 := Lib.hid (And.intro hg hb.lt); have A_17 := Lib.hid (A_16.out.below hx); have C_17 := Lib.hid (C_16.out.below hx); have D_17 := Lib.hid (D_16.out.below hx); have GI_17 := Lib.hid (GI_16.out.below hx); have GR_17 := Lib.hid (GR_16.out.below hx); have X13_17 := Lib.hid (X13_16.out.below hx); have DI_17 := Lib.hid (DI_16.out.below hx); have DR_17 := Lib.hid (DR_16.out.below hx); have X15_17 := Lib.hid (X15_16.out.below hx); have HI_17 := Lib.hid (HI_16.out.below hx); have HR_17 := Lib.hid (HR_16.out.below hx); have X17_17 := Lib.hid (X17_16.out.below hx); have K_17 := Lib.hid (belowThen K_16.out (Nat.le_refl _) hx); have z_17 := hx.size; clear hb hx hg) | (with_reducible refine wpList_loadL (HL2.out.below K_17.out).all rfl _ rfl rfl ?_))
 refine (ref20_any _ r hil w17 (RV.out.below K_17.out)).mono ?_
 rintro e w18 ⟨vq2, rfl, hq, hx⟩
 have HQ2 := Lib.hid hq
 clear hq
 have A_18 := Lib.hid (A_17.out.below hx)
 have C_18 := Lib.hid (C_17.out.below hx)
 have D_18 := Lib.hid (D_17.out.below hx)
 have GI_18 := Lib.hid (GI_17.out.below hx)
 have GR_18 := Lib.hid (GR_17.out.below hx)
 have X13_18 := Lib.hid (X13_17.out.below hx)
 have DI_18 := Lib.hid (DI_17.out.below hx)
 have DR_18 := Lib.hid (DR_17.out.below hx)
 have X15_18 := Lib.hid (X15_17.out.below hx)
 have HI_18 := Lib.hid (HI_17.out.below hx)
 have HR_18 := Lib.hid (HR_17.out.below hx)
 have X17_18 := Lib.hid (X17_17.out.below hx)
 have X19_18 := Lib.hid (X19_17.out.below hx)
 have K_18 := Lib.hid (belowThen K_17.out (Nat.le_refl _) hx)
 have z_18 := hx.size
 clear hx
 go_wp2_with fail
 refine (HKEY2.out _ w18 HQ2.out).mono ?_
 rintro e w19 ⟨rfl, hx⟩
 have A_19 := Lib.hid (A_18.out.below hx)
 have C_19 := Lib.hid (C_18.out.below hx)
 have D_19 := Lib.hid (D_18.out.below hx)
 have GI_19 := Lib.hid (GI_18.out.below hx)
 have GR_19 := Lib.hid (GR_18.out.below hx)
 have X13_19 := Lib.hid (X13_18.out.below hx)
 have DI_19 := Lib.hid (DI_18.out.below hx)
 have DR_19 := Lib.hid (DR_18.out.below hx)
 have X15_19 := Lib.hid (X15_18.out.below hx)
 have HI_19 := Lib.hid (HI_18.out.below hx)
 have HR_19 := Lib.hid (HR_18.out.below hx)
 have X17_19 := Lib.hid (X17_18.out.below hx)
 have X19_19 := Lib.hid (X19_18.out.below hx)
 have K_19 := Lib.hid (belowThen K_18.out (Nat.le_refl _) hx)
 have z_19 := hx.size
 clear hx
 go_wp2_with (first | (refine wpList_new rfl rfl rfl 43 21 81 rfl rfl rfl (by decide) (hC z20) (hC kh) hash_zero2 (by rw [hC_size, hC_size, hkl, z20_length]) (hash_info1 _ hkl) (hC_one1 _) rfl (by first | (simp; done) | simp [Act.put]) ?_; intro g21 w20 hb hx hg; have X21_20 := Lib.hid hb; have HGX21 := Lib.hid (And.intro hg hb.lt); have A_20 := Lib.hid (A_19.out.below hx); have C_20 := Lib.hid (C_19.out.below hx); have D_20 := Lib.hid (D_19.out.below hx); have GI_20 := Lib.hid (GI_19.out.below hx); have GR_20 := Lib.hid (GR_19.out.below hx); have X13_20 := Lib.hid (X13_19.out.below hx); have DI_20 := Lib.hid (DI_19.out.below hx); have DR_20 := Lib.hid (DR_19.out.below hx); have X15_20 := Lib.hid (X15_19.out.below hx); have HI_20 := Lib.hid (HI_19.out.below hx); have HR_20 := Lib.hid (HR_19.out.below hx); have X17_20 := Lib.hid (X17_19.out.below hx); have X19_20 := Lib.hid (X19_19.out.below hx); have K_20 := Lib.hid (belowThen K_19.out (Nat.le_refl _) hx); have z_20 := hx.size; clear hb hx hg) | (with_reducible refine wpList_loadL (HL5.out.below K_20.out).all rfl _ rfl rfl ?_))
 refine (HDUM.out _ w20 (RX.out.below K_20.out)).mono ?_
 rintro e w21 ⟨rfl, hx⟩
 have A_21 := Lib.hid (A_20.out.below hx)
 have C_21 := Lib.hid (C_20.out.below hx)
 have D_21 := Lib.hid (D_20.out.below hx)
 have GI_21 := Lib.hid (GI_20.out.below hx)
 have GR_21 := Lib.hid (GR_20.out.below hx)
 have X13_21 := Lib.hid (X13_20.out.below hx)
 have DI_21 := Lib.hid (DI_20.out.below hx)
 have DR_21 := Lib.hid (DR_20.out.below hx)
 have X15_21 := Lib.hid (X15_20.out.below hx)
 have HI_21 := Lib.hid (HI_20.out.below hx)
 have HR_21 := Lib.hid (HR_20.out.below hx)
 have X17_21 := Lib.hid (X17_20.out.below hx)
 have X19_21 := Lib.hid (X19_20.out.below hx)
 have X21_21 := Lib.hid (X21_20.out.below hx)
 have K_21 := Lib.hid (belowThen K_20.out (Nat.le_refl _) hx)
 have z_21 := hx.size
 clear hx
 go_wp2_with (first | (refine wpList_new rfl rfl rfl 48 23 86 rfl rfl rfl (by decide) (pC z20 []) (pC dh dn) pC_zero (by rw [pC_size, pC_size, hdl, z20_length]) (pC_info _ _ hdl) (pC_one _ _) rfl (by first | (simp; done) | simp [Act.put]) ?_; intro g23 w22 hb hx hg; have X23_22 := Lib.hid hb; have HGX23 := Lib.hid (And.intro hg hb.lt); have A_22 := Lib.hid (A_21.out.below hx); have C_22 := Lib.hid (C_21.out.below hx); have D_22 := Lib.hid (D_21.out.below hx); have GI_22 := Lib.hid (GI_21.out.below hx); have GR_22 := Lib.hid (GR_21.out.below hx); have X13_22 := Lib.hid (X13_21.out.below hx); have DI_22 := Lib.hid (DI_21.out.below hx); have DR_22 := Lib.hid (DR_21.out.below hx); have X15_22 := Lib.hid (X15_21.out.below hx); have HI_22 := Lib.hid (HI_21.out.below hx); have HR_22 := Lib.hid (HR_21.out.below hx); have X17_22 := Lib.hid (X17_21.out.below hx); have X19_22 := Lib.hid (X19_21.out.below hx); have X21_22 := Lib.hid (X21_21.out.below hx); have K_22 := Lib.hid (belowThen K_21.out (Nat.le_refl _) hx); have z_22 := hx.size; clear hb hx hg) | (with_reducible refine wpList_loadL (HL2.out.below K_22.out).all rfl _ rfl rfl ?_))
 refine (ref20_any _ r hil w22 (RV.out.below K_22.out)).mono ?_
 rintro e w23 ⟨vq3, rfl, hq, hx⟩
 have HQ3 := Lib.hid hq
 clear hq
 have A_23 := Lib.hid (A_22.out.below hx)
 have C_23 := Lib.hid (C_22.out.below hx)
 have D_23 := Lib.hid (D_22.out.below hx)
 have GI_23 := Lib.hid (GI_22.out.below hx)
 have GR_23 := Lib.hid (GR_22.out.below hx)
 have X13_23 := Lib.hid (X13_22.out.below hx)
 have DI_23 := Lib.hid (DI_22.out.below hx)
 have DR_23 := Lib.hid (DR_22.out.below hx)
 have X15_23 := Lib.hid (X15_22.out.below hx)
 have HI_23 := Lib.hid (HI_22.out.below hx)
 have HR_23 := Lib.hid (HR_22.out.below hx)
 have X17_23 := Lib.hid (X17_22.out.below hx)
 have X19_23 := Lib.hid (X19_22.out.below hx)
 have X21_23 := Lib.hid (X21_22.out.below hx)
 have X23_23 := Lib.hid (X23_22.out.below hx)
 have K_23 := Lib.hid (belowThen K_22.out (Nat.le_refl _) hx)
 have z_23 := hx.size
 clear hx
 go_wp2_with fail
 refine (HDUM2.out _ w23 HQ3.out).mono ?_
 rintro e w24 ⟨rfl, hx⟩
 have A_24 := Lib.hid (A_23.out.below hx)
 have C_24 := Lib.hid (C_23.out.below hx)
 have D_24 := Lib.hid (D_23.out.below hx)
 have GI_24 := Lib.hid (GI_23.out.below hx)
 have GR_24 := Lib.hid (GR_23.out.below hx)
 have X13_24 := Lib.hid (X13_23.out.below hx)
 have DI_24 := Lib.hid (DI_23.out.below hx)
 have DR_24 := Lib.hid (DR_23.out.below hx)
 have X15_24 := Lib.hid (X15_23.out.below hx)
 have HI_24 := Lib.hid (HI_23.out.below hx)
 have HR_24 := Lib.hid (HR_23.out.below hx)
 have X17_24 := Lib.hid (X17_23.out.below hx)
 have X19_24 := Lib.hid (X19_23.out.below hx)
 have X21_24 := Lib.hid (X21_23.out.below hx)
 have X23_24 := Lib.hid (X23_23.out.below hx)
 have K_24 := Lib.hid (belowThen K_23.out (Nat.le_refl _) hx)
 have z_24 := hx.size
 clear hx
 go_wp2_with (first | (refine wpList_new rfl rfl rfl 48 25 92 rfl rfl rfl (by decide) (pC z20 []) (pC dh dn) pC_zero (by rw [pC_size, pC_size, hdl, z20_length]) (pC_info _ _ hdl) (pC_one _ _) rfl (by first | (simp; done) | simp [Act.put]) ?_; intro g25 w25 hb hx hg; have X25_25 := Lib.hid hb; have HGX25 := Lib.hid (And.intro hg hb.lt); have A_25 := Lib.hid (A_24.out.below hx); have C_25 := Lib.hid (C_24.out.below hx); have D_25 := Lib.hid (D_24.out.below hx); have GI_25 := Lib.hid (GI_24.out.below hx); have GR_25 := Lib.hid (GR_24.out.below hx); have X13_25 := Lib.hid (X13_24.out.below hx); have DI_25 := Lib.hid (DI_24.out.below hx); have DR_25 := Lib.hid (DR_24.out.below hx); have X15_25 := Lib.hid (X15_24.out.below hx); have HI_25 := Lib.hid (HI_24.out.below hx); have HR_25 := Lib.hid (HR_24.out.below hx); have X17_25 := Lib.hid (X17_24.out.below hx); have X19_25 := Lib.hid (X19_24.out.below hx); have X21_25 := Lib.hid (X21_24.out.below hx); have X23_25 := Lib.hid (X23_24.out.below hx); have K_25 := Lib.hid (belowThen K_24.out (Nat.le_refl _) hx); have z_25 := hx.size; clear hb hx hg))
 try simp only [Act.put, List.setIfInBounds_toArray, List.set_cons_succ, List.set_cons_zero]
 obtain ⟨wS, hwd⟩ : ∃ W, W = w25.drew := ⟨_, rfl⟩
 have hx : Below w25.heap.size w25 wS := by rw [hwd]; exact (Below.refl _ _).drew
 have A_S := Lib.hid (A_25.out.below hx)
 have C_S := Lib.hid (C_25.out.below hx)
 have D_S := Lib.hid (D_25.out.below hx)
 have GI_S := Lib.hid (GI_25.out.below hx)
 have GR_S := Lib.hid (GR_25.out.below hx)
 have X13_S := Lib.hid (X13_25.out.below hx)
 have DI_S := Lib.hid (DI_25.out.below hx)
 have DR_S := Lib.hid (DR_25.out.below hx)
 have X15_S := Lib.hid (X15_25.out.below hx)
 have HI_S := Lib.hid (HI_25.out.below hx)
 have HR_S := Lib.hid (HR_25.out.below hx)
 have X17_S := Lib.hid (X17_25.out.below hx)
 have X19_S := Lib.hid (X19_25.out.below hx)
 have X21_S := Lib.hid (X21_25.out.below hx)
 have X23_S := Lib.hid (X23_25.out.below hx)
 have X25_S := Lib.hid (X25_25.out.below hx)
 have K_S := Lib.hid (belowThen K_25.out (Nat.le_refl _) hx)
 have z_S := hx.size
 clear hx
 have S2 := Lib.hid (HL2.out.below K_S.out)
 have S5 := Lib.hid (HL5.out.below K_S.out)
 have S13 := Lib.hid (RvB.of_blk X13_S.out)
 have S15 := Lib.hid (RfB.of_blk X15_S.out)
 have S19 := Lib.hid (X19_S.out.loads (P := Tryz.prog) Tryz.underlying43 rfl (hash_info1 _ hkl))
 have S21 := Lib.hid (X21_S.out.loads (P := Tryz.prog) Tryz.underlying43 rfl (hash_info1 _ hkl))
 have S23 := Lib.hid (X23_S.out.loads (P := Tryz.prog) pC_under rfl (pC_info _ _ hdl))
 have S25 := Lib.hid (X25_S.out.loads (P := Tryz.prog) pC_under rfl (pC_info _ _ hdl))
 refine wp_region_held_drew (S := fun W => Below wS.heap.size wS W) (by kernel_rfl) (by rw [← hwd]; exact Below.refl _ _) (fun hHeld => ?_)
 rw [← hwd] at hHeld ⊢
 clear hwd
 have T_S := Lib.hid hHeld
 clear hHeld
 refine held_take 0 (.agg (rsC r.1 ui ur)) rfl (by kernel_rfl) (fun _ _ _ h => h) rfl (fun W hS => exec_loadC rfl rfl ((S5.out.below hS).all).now) (by assumption) ?_
 try simp only [Act.put, List.setIfInBounds_toArray, List.set_cons_succ, List.set_cons_zero]
 refine held_take 2 (.agg #[.string ⟨r.1.toArray⟩, vi, vr]) rfl (by kernel_rfl) (fun _ _ _ h => h) rfl (fun W hS => exec_loadC rfl rfl ((S2.out.below hS).all).now) (by assumption) ?_
 try simp only [Act.put, List.setIfInBounds_toArray, List.set_cons_succ, List.set_cons_zero]
 refine held_one 1 rfl (by kernel_rfl) ?_
 refine stepw_call rfl 18 _ _ rfl #[.agg (rsC r.1 ui ur)] (by simp only [List.map_toArray, List.map_cons, List.map_nil]; rfl) (fun W => HE1.out _ W) ?_
 refine (HCAN.out _ wS (RX.out.below K_S.out)).mono ?_
 rintro x wS1 ⟨rfl, hx⟩
 have A_S1 := Lib.hid (A_S.out.below hx)
 have C_S1 := Lib.hid (C_S.out.below hx)
 have D_S1 := Lib.hid (D_S.out.below hx)
 have GI_S1 := Lib.hid (GI_S.out.below hx)
 have GR_S1 := Lib.hid (GR_S.out.below hx)
 have X13_S1 := Lib.hid (X13_S.out.below hx)
 have DI_S1 := Lib.hid (DI_S.out.below hx)
 have DR_S1 := Lib.hid (DR_S.out.below hx)
 have X15_S1 := Lib.hid (X15_S.out.below hx)
 have HI_S1 := Lib.hid (HI_S.out.below hx)
 have HR_S1 := Lib.hid (HR_S.out.below hx)
 have X17_S1 := Lib.hid (X17_S.out.below hx)
 have X19_S1 := Lib.hid (X19_S.out.below hx)
 have X21_S1 := Lib.hid (X21_S.out.below hx)
 have X23_S1 := Lib.hid (X23_S.out.below hx)
 have X25_S1 := Lib.hid (X25_S.out.below hx)
 have K_S1 := Lib.hid (belowThen K_S.out (Nat.le_refl _) hx)
 have z_S1 := hx.size
 have T_S1 := Lib.hid (belowThen T_S.out (Nat.le_refl _) hx)
 clear hx
 refine ⟨_, rfl, ?_⟩
 refine ⟨T_S1.out, ?_⟩
 try simp only [Act.put, List.setIfInBounds_toArray, List.set_cons_succ, List.set_cons_zero]
 refine held_one 3 rfl (by kernel_rfl) ?_
 refine stepw_call rfl 11 _ _ rfl #[.agg #[.string ⟨r.1.toArray⟩, vi, vr]] (by simp only [List.map_toArray, List.map_cons, List.map_nil]; rfl) (fun W => HE2.out _ W) ?_
 refine (ref20_any _ r hil wS1 (RV.out.below K_S1.out)).mono ?_
 rintro x wS2 ⟨vq4, rfl, hq, hx⟩
 have HQ4 := Lib.hid hq
 clear hq
 have A_S2 := Lib.hid (A_S1.out.below hx)
 have C_S2 := Lib.hid (C_S1.out.below hx)
 have D_S2 := Lib.hid (D_S1.out.below hx)
 have GI_S2 := Lib.hid (GI_S1.out.below hx)
 have GR_S2 := Lib.hid (GR_S1.out.below hx)
 have X13_S2 := Lib.hid (X13_S1.out.below hx)
 have DI_S2 := Lib.hid (DI_S1.out.below hx)
 have DR_S2 := Lib.hid (DR_S1.out.below hx)
 have X15_S2 := Lib.hid (X15_S1.out.below hx)
 have HI_S2 := Lib.hid (HI_S1.out.below hx)
 have HR_S2 := Lib.hid (HR_S1.out.below hx)
 have X17_S2 := Lib.hid (X17_S1.out.below hx)
 have X19_S2 := Lib.hid (X19_S1.out.below hx)
 have X21_S2 := Lib.hid (X21_S1.out.below hx)
 have X23_S2 := Lib.hid (X23_S1.out.below hx)
 have X25_S2 := Lib.hid (X25_S1.out.below hx)
 have K_S2 := Lib.hid (belowThen K_S1.out (Nat.le_refl _) hx)
 have z_S2 := hx.size
 have T_S2 := Lib.hid (belowThen T_S1.out (Nat.le_refl _) hx)
 clear hx
 refine ⟨_, rfl, ?_⟩
 refine ⟨T_S2.out, ?_⟩
 try simp only [Act.put, List.setIfInBounds_toArray, List.set_cons_succ, List.set_cons_zero]
 refine held_one 4 rfl (by kernel_rfl) ?_
 refine stepw_call rfl 19 _ _ rfl #[vq4] (by simp only [List.map_toArray, List.map_cons, List.map_nil]; rfl) (fun W => HE3.out _ W) ?_
 refine (HCAN2.out _ wS2 HQ4.out).mono ?_
 rintro x wS3 ⟨rfl, hx⟩
 have A_S3 := Lib.hid (A_S2.out.below hx)
 have C_S3 := Lib.hid (C_S2.out.below hx)
 have D_S3 := Lib.hid (D_S2.out.below hx)
 have GI_S3 := Lib.hid (GI_S2.out.below hx)
 have GR_S3 := Lib.hid (GR_S2.out.below hx)
 have X13_S3 := Lib.hid (X13_S2.out.below hx)
 have DI_S3 := Lib.hid (DI_S2.out.below hx)
 have DR_S3 := Lib.hid (DR_S2.out.below hx)
 have X15_S3 := Lib.hid (X15_S2.out.below hx)
 have HI_S3 := Lib.hid (HI_S2.out.below hx)
 have HR_S3 := Lib.hid (HR_S2.out.below hx)
 have X17_S3 := Lib.hid (X17_S2.out.below hx)
 have X19_S3 := Lib.hid (X19_S2.out.below hx)
 have X21_S3 := Lib.hid (X21_S2.out.below hx)
 have X23_S3 := Lib.hid (X23_S2.out.below hx)
 have X25_S3 := Lib.hid (X25_S2.out.below hx)
 have K_S3 := Lib.hid (belowThen K_S2.out (Nat.le_refl _) hx)
 have z_S3 := hx.size
 have T_S3 := Lib.hid (belowThen T_S2.out (Nat.le_refl _) hx)
 clear hx
 refine ⟨_, rfl, ?_⟩
 refine ⟨T_S3.out, ?_⟩
 try simp only [Act.put, List.setIfInBounds_toArray, List.set_cons_succ, List.set_cons_zero]
 refine held_take 5 (.bool false) rfl (by kernel_rfl) (fun _ _ _ h => h) rfl (fun W _ => exec_neqBT (b := cb) rfl rfl rfl) (by assumption) ?_
 try simp only [Act.put, List.setIfInBounds_toArray, List.set_cons_succ, List.set_cons_zero]
 refine held_take 6 (.bool false) rfl (by kernel_rfl) (fun _ _ _ h => h) rfl (fun W _ => by kernel_rfl) (by assumption) ?_
 try simp only [Act.put, List.setIfInBounds_toArray, List.set_cons_succ, List.set_cons_zero]
 refine held_take 7 (.int .i64 (er : Int)) rfl (by kernel_rfl) (fun _ _ _ h => h) rfl (fun W _ => by kernel_rfl) (by assumption) ?_
 try simp only [Act.put, List.setIfInBounds_toArray, List.set_cons_succ, List.set_cons_zero]
 refine held_take 8 (.int .i64 (er : Int)) rfl (by kernel_rfl) (fun _ _ _ h => h) rfl (fun W _ => by kernel_rfl) (by assumption) ?_
 try simp only [Act.put, List.setIfInBounds_toArray, List.set_cons_succ, List.set_cons_zero]
 refine held_take 9 (.bool false) rfl (by kernel_rfl) (fun _ _ _ h => h) rfl (fun W _ => exec_neqII rfl rfl rfl) (by assumption) ?_
 try simp only [Act.put, List.setIfInBounds_toArray, List.set_cons_succ, List.set_cons_zero]
 refine held_take 10 (.bool false) rfl (by kernel_rfl) (fun _ _ _ h => h) rfl (fun W _ => by kernel_rfl) (by assumption) ?_
 try simp only [Act.put, List.setIfInBounds_toArray, List.set_cons_succ, List.set_cons_zero]
 refine held_take 11 (.bool false) rfl (by kernel_rfl) (fun _ _ _ h => h) rfl (fun W _ => by kernel_rfl) (by assumption) ?_
 try simp only [Act.put, List.setIfInBounds_toArray, List.set_cons_succ, List.set_cons_zero]
 refine held_take 12 (sa.1) rfl (by kernel_rfl) (fun _ _ _ h => h) rfl (fun W _ => by kernel_rfl) (by assumption) ?_
 try simp only [Act.put, List.setIfInBounds_toArray, List.set_cons_succ, List.set_cons_zero]
 refine held_take 13 (sc.1) rfl (by kernel_rfl) (fun _ _ _ h => h) rfl (fun W _ => by kernel_rfl) (by assumption) ?_
 try simp only [Act.put, List.setIfInBounds_toArray, List.set_cons_succ, List.set_cons_zero]
 refine held_one 14 rfl (by kernel_rfl) ?_
 refine stepw_call rfl 20 _ _ rfl #[sa.1, sc.1] (by simp only [List.map_toArray, List.map_cons, List.map_nil]; rfl) (fun W => HE4.out _ W) ?_
 refine (HSB.out sa.1 sc.1 la wS3 (by have := HLA.out; omega) A_S3.out.slice C_S3.out.slice).mono ?_
 rintro x wS4 ⟨rfl, hx⟩
 have A_S4 := Lib.hid (A_S3.out.below hx)
 have C_S4 := Lib.hid (C_S3.out.below hx)
 have D_S4 := Lib.hid (D_S3.out.below hx)
 have GI_S4 := Lib.hid (GI_S3.out.below hx)
 have GR_S4 := Lib.hid (GR_S3.out.below hx)
 have X13_S4 := Lib.hid (X13_S3.out.below hx)
 have DI_S4 := Lib.hid (DI_S3.out.below hx)
 have DR_S4 := Lib.hid (DR_S3.out.below hx)
 have X15_S4 := Lib.hid (X15_S3.out.below hx)
 have HI_S4 := Lib.hid (HI_S3.out.below hx)
 have HR_S4 := Lib.hid (HR_S3.out.below hx)
 have X17_S4 := Lib.hid (X17_S3.out.below hx)
 have X19_S4 := Lib.hid (X19_S3.out.below hx)
 have X21_S4 := Lib.hid (X21_S3.out.below hx)
 have X23_S4 := Lib.hid (X23_S3.out.below hx)
 have X25_S4 := Lib.hid (X25_S3.out.below hx)
 have K_S4 := Lib.hid (belowThen K_S3.out (Nat.le_refl _) hx)
 have z_S4 := hx.size
 have T_S4 := Lib.hid (belowThen T_S3.out (Nat.le_refl _) hx)
 clear hx
 refine ⟨_, rfl, ?_⟩
 refine ⟨T_S4.out, ?_⟩
 try simp only [Act.put, List.setIfInBounds_toArray, List.set_cons_succ, List.set_cons_zero]
 refine held_take 15 (.bool false) rfl (by kernel_rfl) (fun _ _ _ h => h) rfl (fun W _ => by kernel_rfl) (by assumption) ?_
 try simp only [Act.put, List.setIfInBounds_toArray, List.set_cons_succ, List.set_cons_zero]
 refine held_take 16 (.bool false) rfl (by kernel_rfl) (fun _ _ _ h => h) rfl (fun W _ => by kernel_rfl) (by assumption) ?_
 try simp only [Act.put, List.setIfInBounds_toArray, List.set_cons_succ, List.set_cons_zero]
 refine held_take 17 (.bool false) rfl (by kernel_rfl) (fun _ _ _ h => h) rfl (fun W _ => by kernel_rfl) (by assumption) ?_
 try simp only [Act.put, List.setIfInBounds_toArray, List.set_cons_succ, List.set_cons_zero]
 refine held_take 18 (.int .i64 (ge : Int)) rfl (by kernel_rfl) (fun _ _ _ h => h) rfl (fun W _ => by kernel_rfl) (by assumption) ?_
 try simp only [Act.put, List.setIfInBounds_toArray, List.set_cons_succ, List.set_cons_zero]
 refine held_take 19 (.int .i64 (ge : Int)) rfl (by kernel_rfl) (fun _ _ _ h => h) rfl (fun W _ => by kernel_rfl) (by assumption) ?_
 try simp only [Act.put, List.setIfInBounds_toArray, List.set_cons_succ, List.set_cons_zero]
 refine held_take 20 (.bool false) rfl (by kernel_rfl) (fun _ _ _ h => h) rfl (fun W _ => exec_neqII rfl rfl rfl) (by assumption) ?_
 try simp only [Act.put, List.setIfInBounds_toArray, List.set_cons_succ, List.set_cons_zero]
 refine held_take 21 (.bool false) rfl (by kernel_rfl) (fun _ _ _ h => h) rfl (fun W _ => by kernel_rfl) (by assumption) ?_
 try simp only [Act.put, List.setIfInBounds_toArray, List.set_cons_succ, List.set_cons_zero]
 refine held_take 22 (.bool false) rfl (by kernel_rfl) (fun _ _ _ h => h) rfl (fun W _ => by kernel_rfl) (by assumption) ?_
 try simp only [Act.put, List.setIfInBounds_toArray, List.set_cons_succ, List.set_cons_zero]
 refine held_take 23 (.agg (rsC gn gi sg.1)) rfl (by kernel_rfl) (fun _ _ _ h => h) rfl (fun W hS => exec_loadC rfl rfl ((S13.out.below hS).all).now) (by assumption) ?_
 try simp only [Act.put, List.setIfInBounds_toArray, List.set_cons_succ, List.set_cons_zero]
 refine held_take 24 (.agg (rsC gn di dr)) rfl (by kernel_rfl) (fun _ _ _ h => h) rfl (fun W hS => exec_loadC rfl rfl ((S15.out.below hS).all).now) (by assumption) ?_
 try simp only [Act.put, List.setIfInBounds_toArray, List.set_cons_succ, List.set_cons_zero]
 refine held_one 25 rfl (by kernel_rfl) ?_
 refine stepw_call rfl 21 _ _ rfl #[.agg (rsC gn gi sg.1), .agg (rsC gn di dr)] (by simp only [List.map_toArray, List.map_cons, List.map_nil]; rfl) (fun W => HE5.out _ W) ?_
 refine (HSM.out _ _ (gn, gl, grc) (by show gl.length ≤ _; have := HGL.out.1; omega) (by show grc.length ≤ _; have := HGL.out.2; omega) wS4 ⟨gi, sg.1, rfl, GI_S4.out.slice, GR_S4.out.slice⟩ ⟨di, dr, rfl, DI_S4.out.slice, DR_S4.out.slice⟩).mono ?_
 rintro x wS5 ⟨rfl, hx⟩
 have A_S5 := Lib.hid (A_S4.out.below hx)
 have C_S5 := Lib.hid (C_S4.out.below hx)
 have D_S5 := Lib.hid (D_S4.out.below hx)
 have GI_S5 := Lib.hid (GI_S4.out.below hx)
 have GR_S5 := Lib.hid (GR_S4.out.below hx)
 have X13_S5 := Lib.hid (X13_S4.out.below hx)
 have DI_S5 := Lib.hid (DI_S4.out.below hx)
 have DR_S5 := Lib.hid (DR_S4.out.below hx)
 have X15_S5 := Lib.hid (X15_S4.out.below hx)
 have HI_S5 := Lib.hid (HI_S4.out.below hx)
 have HR_S5 := Lib.hid (HR_S4.out.below hx)
 have X17_S5 := Lib.hid (X17_S4.out.below hx)
 have X19_S5 := Lib.hid (X19_S4.out.below hx)
 have X21_S5 := Lib.hid (X21_S4.out.below hx)
 have X23_S5 := Lib.hid (X23_S4.out.below hx)
 have X25_S5 := Lib.hid (X25_S4.out.below hx)
 have K_S5 := Lib.hid (belowThen K_S4.out (Nat.le_refl _) hx)
 have z_S5 := hx.size
 have T_S5 := Lib.hid (belowThen T_S4.out (Nat.le_refl _) hx)
 clear hx
 refine ⟨_, rfl, ?_⟩
 refine ⟨T_S5.out, ?_⟩
 try simp only [Act.put, List.setIfInBounds_toArray, List.set_cons_succ, List.set_cons_zero]
 refine held_take 26 (.bool false) rfl (by kernel_rfl) (fun _ _ _ h => h) rfl (fun W _ => by kernel_rfl) (by assumption) ?_
 try simp only [Act.put, List.setIfInBounds_toArray, List.set_cons_succ, List.set_cons_zero]
 refine held_take 27 (.bool false) rfl (by kernel_rfl) (fun _ _ _ h => h) rfl (fun W _ => by kernel_rfl) (by assumption) ?_
 try simp only [Act.put, List.setIfInBounds_toArray, List.set_cons_succ, List.set_cons_zero]
 refine held_take 28 (.bool false) rfl (by kernel_rfl) (fun _ _ _ h => h) rfl (fun W _ => by kernel_rfl) (by assumption) ?_
 try simp only [Act.put, List.setIfInBounds_toArray, List.set_cons_succ, List.set_cons_zero]
 refine held_take 29 (.int .i64 (er : Int)) rfl (by kernel_rfl) (fun _ _ _ h => h) rfl (fun W _ => by kernel_rfl) (by assumption) ?_
 try simp only [Act.put, List.setIfInBounds_toArray, List.set_cons_succ, List.set_cons_zero]
 refine held_take 30 (.int .i64 (er : Int)) rfl (by kernel_rfl) (fun _ _ _ h => h) rfl (fun W _ => by kernel_rfl) (by assumption) ?_
 try simp only [Act.put, List.setIfInBounds_toArray, List.set_cons_succ, List.set_cons_zero]
 refine held_take 31 (.bool false) rfl (by kernel_rfl) (fun _ _ _ h => h) rfl (fun W _ => exec_neqII rfl rfl rfl) (by assumption) ?_
 try simp only [Act.put, List.setIfInBounds_toArray, List.set_cons_succ, List.set_cons_zero]
 refine held_take 32 (.bool false) rfl (by kernel_rfl) (fun _ _ _ h => h) rfl (fun W _ => by kernel_rfl) (by assumption) ?_
 try simp only [Act.put, List.setIfInBounds_toArray, List.set_cons_succ, List.set_cons_zero]
 refine held_take 33 (.bool false) rfl (by kernel_rfl) (fun _ _ _ h => h) rfl (fun W _ => by kernel_rfl) (by assumption) ?_
 try simp only [Act.put, List.setIfInBounds_toArray, List.set_cons_succ, List.set_cons_zero]
 refine held_take 34 (.agg (hC kh)) rfl (by kernel_rfl) (fun _ _ _ h => h) rfl (fun W hS => exec_loadC rfl rfl (S19.out.below hS).now) (by assumption) ?_
 try simp only [Act.put, List.setIfInBounds_toArray, List.set_cons_succ, List.set_cons_zero]
 refine held_take 35 (.agg (hC kh)) rfl (by kernel_rfl) (fun _ _ _ h => h) rfl (fun W hS => exec_loadC rfl rfl (S21.out.below hS).now) (by assumption) ?_
 try simp only [Act.put, List.setIfInBounds_toArray, List.set_cons_succ, List.set_cons_zero]
 refine held_take 36 (.bool false) rfl (by kernel_rfl) (fun _ _ _ h => h) rfl (fun W _ => run_eqw .neq (.inr rfl) 43 _ _ _ rfl (hC kh) (hC kh) rfl rfl false (by kernel_rfl) HKN.out W) (by assumption) ?_
 try simp only [Act.put, List.setIfInBounds_toArray, List.set_cons_succ, List.set_cons_zero]
 refine held_take 37 (.bool false) rfl (by kernel_rfl) (fun _ _ _ h => h) rfl (fun W _ => by kernel_rfl) (by assumption) ?_
 try simp only [Act.put, List.setIfInBounds_toArray, List.set_cons_succ, List.set_cons_zero]
 refine held_take 38 (.bool false) rfl (by kernel_rfl) (fun _ _ _ h => h) rfl (fun W _ => by kernel_rfl) (by assumption) ?_
 try simp only [Act.put, List.setIfInBounds_toArray, List.set_cons_succ, List.set_cons_zero]
 refine held_take 39 (.int .i64 (er : Int)) rfl (by kernel_rfl) (fun _ _ _ h => h) rfl (fun W _ => by kernel_rfl) (by assumption) ?_
 try simp only [Act.put, List.setIfInBounds_toArray, List.set_cons_succ, List.set_cons_zero]
 refine held_take 40 (.int .i64 (er : Int)) rfl (by kernel_rfl) (fun _ _ _ h => h) rfl (fun W _ => by kernel_rfl) (by assumption) ?_
 try simp only [Act.put, List.setIfInBounds_toArray, List.set_cons_succ, List.set_cons_zero]
 refine held_take 41 (.bool false) rfl (by kernel_rfl) (fun _ _ _ h => h) rfl (fun W _ => exec_neqII rfl rfl rfl) (by assumption) ?_
 try simp only [Act.put, List.setIfInBounds_toArray, List.set_cons_succ, List.set_cons_zero]
 refine held_take 42 (.bool false) rfl (by kernel_rfl) (fun _ _ _ h => h) rfl (fun W _ => by kernel_rfl) (by assumption) ?_
 try simp only [Act.put, List.setIfInBounds_toArray, List.set_cons_succ, List.set_cons_zero]
 refine held_take 43 (.bool false) rfl (by kernel_rfl) (fun _ _ _ h => h) rfl (fun W _ => by kernel_rfl) (by assumption) ?_
 try simp only [Act.put, List.setIfInBounds_toArray, List.set_cons_succ, List.set_cons_zero]
 refine held_take 44 (.agg (pC dh dn)) rfl (by kernel_rfl) (fun _ _ _ h => h) rfl (fun W hS => exec_loadC rfl rfl (S23.out.below hS).now) (by assumption) ?_
 try simp only [Act.put, List.setIfInBounds_toArray, List.set_cons_succ, List.set_cons_zero]
 refine held_take 45 (.agg (pC dh dn)) rfl (by kernel_rfl) (fun _ _ _ h => h) rfl (fun W hS => exec_loadC rfl rfl (S25.out.below hS).now) (by assumption) ?_
 try simp only [Act.put, List.setIfInBounds_toArray, List.set_cons_succ, List.set_cons_zero]
 refine held_take 46 (.bool false) rfl (by kernel_rfl) (fun _ _ _ h => h) rfl (fun W _ => run_eqw .neq (.inr rfl) 48 _ _ _ rfl (pC dh dn) (pC dh dn) rfl rfl false (by kernel_rfl) HDN.out W) (by assumption) ?_
 try simp only [Act.put, List.setIfInBounds_toArray, List.set_cons_succ, List.set_cons_zero]
 refine held_take 47 (.bool false) rfl (by kernel_rfl) (fun _ _ _ h => h) rfl (fun W _ => by kernel_rfl) (by assumption) ?_
 try simp only [Act.put, List.setIfInBounds_toArray, List.set_cons_succ, List.set_cons_zero]
 refine held_end (by kernel_rfl) ?_
 go_wp2_with fail
 try simp only [Act.put, List.setIfInBounds_toArray, List.set_cons_succ, List.set_cons_zero]
 obtain ⟨wT, hwd⟩ : ∃ W, W = wS5.drew := ⟨_, rfl⟩
 have hx : Below wS5.heap.size wS5 wT := by rw [hwd]; exact (Below.refl _ _).drew
 have A_T := Lib.hid (A_S5.out.below hx)
 have D_T := Lib.hid (D_S5.out.below hx)
 have GR_T := Lib.hid (GR_S5.out.below hx)
 have X13_T := Lib.hid (X13_S5.out.below hx)
 have HR_T := Lib.hid (HR_S5.out.below hx)
 have X17_T := Lib.hid (X17_S5.out.below hx)
 have K_T := Lib.hid (belowThen K_S5.out (Nat.le_refl _) hx)
 have z_T := hx.size
 clear hx
 have S5 := Lib.hid (HL5.out.below K_T.out)
 refine wp_region_held_drew (S := fun W => Below wT.heap.size wT W) (by kernel_rfl) (by rw [← hwd]; exact Below.refl _ _) (fun hHeld => ?_)
 rw [← hwd] at hHeld ⊢
 clear hwd
 have T_T := Lib.hid hHeld
 clear hHeld
 refine held_take 0 (.agg (rsC r.1 ui ur)) rfl (by kernel_rfl) (fun _ _ _ h => h) rfl (fun W hS => exec_loadC rfl rfl ((S5.out.below hS).all).now) (by assumption) ?_
 try simp only [Act.put, List.setIfInBounds_toArray, List.set_cons_succ, List.set_cons_zero]
 refine held_take 2 (.agg (rsC r.1 ui ur)) rfl (by kernel_rfl) (fun _ _ _ h => h) rfl (fun W hS => exec_loadC rfl rfl ((S5.out.below hS).all).now) (by assumption) ?_
 try simp only [Act.put, List.setIfInBounds_toArray, List.set_cons_succ, List.set_cons_zero]
 refine held_one 1 rfl (by kernel_rfl) ?_
 refine stepw_call rfl 22 _ _ rfl #[.agg (rsC r.1 ui ur)] (by simp only [List.map_toArray, List.map_cons, List.map_nil]; rfl) (fun W => HE6.out _ W) ?_
 refine (rsPaths_any _ r hil wT (RX.out.below K_T.out)).mono ?_
 rintro x wT1 ⟨vp, R1, rfl, hr1, hm1, ho, hx⟩
 obtain ⟨sp, rfl⟩ := own_svK ho
 have HR1 := Lib.hid (And.intro hr1 hm1)
 have PP_T1 := Lib.hid ho
 have RPP := Lib.hid (own_inK ho)
 clear ho
 clear hr1 hm1
 have A_T1 := Lib.hid (A_T.out.below hx)
 have D_T1 := Lib.hid (D_T.out.below hx)
 have GR_T1 := Lib.hid (GR_T.out.below hx)
 have X13_T1 := Lib.hid (X13_T.out.below hx)
 have HR_T1 := Lib.hid (HR_T.out.below hx)
 have X17_T1 := Lib.hid (X17_T.out.below hx)
 have K_T1 := Lib.hid (belowThen K_T.out (Nat.le_refl _) hx)
 have z_T1 := hx.size
 have T_T1 := Lib.hid (belowThen T_T.out (Nat.le_refl _) hx)
 clear hx
 refine ⟨_, rfl, ?_⟩
 refine ⟨T_T1.out, ?_⟩
 try simp only [Act.put, List.setIfInBounds_toArray, List.set_cons_succ, List.set_cons_zero]
 refine held_one 3 rfl (by kernel_rfl) ?_
 refine stepw_call rfl 22 _ _ rfl #[.agg (rsC r.1 ui ur)] (by simp only [List.map_toArray, List.map_cons, List.map_nil]; rfl) (fun W => HE6.out _ W) ?_
 refine (rsPaths_any _ r hil wT1 (RX.out.below K_T1.out)).mono ?_
 rintro x wT2 ⟨vp2, R2, rfl, hr1, hm1, ho, hx⟩
 obtain ⟨sq, rfl⟩ := own_svK ho
 have HR2 := Lib.hid (And.intro hr1 hm1)
 have PQ_T2 := Lib.hid ho
 have RPQ := Lib.hid (own_inK ho)
 clear ho
 clear hr1 hm1
 have A_T2 := Lib.hid (A_T1.out.below hx)
 have D_T2 := Lib.hid (D_T1.out.below hx)
 have GR_T2 := Lib.hid (GR_T1.out.below hx)
 have X13_T2 := Lib.hid (X13_T1.out.below hx)
 have HR_T2 := Lib.hid (HR_T1.out.below hx)
 have X17_T2 := Lib.hid (X17_T1.out.below hx)
 have PP_T2 := Lib.hid (PP_T1.out.below hx)
 have K_T2 := Lib.hid (belowThen K_T1.out (Nat.le_refl _) hx)
 have z_T2 := hx.size
 have T_T2 := Lib.hid (belowThen T_T1.out (Nat.le_refl _) hx)
 clear hx
 refine ⟨_, rfl, ?_⟩
 refine ⟨T_T2.out, ?_⟩
 try simp only [Act.put, List.setIfInBounds_toArray, List.set_cons_succ, List.set_cons_zero]
 refine held_take 4 (sp.1) rfl (by kernel_rfl) (fun _ _ _ h => h) rfl (fun W _ => by kernel_rfl) (by assumption) ?_
 try simp only [Act.put, List.setIfInBounds_toArray, List.set_cons_succ, List.set_cons_zero]
 refine held_take 5 (sq.1) rfl (by kernel_rfl) (fun _ _ _ h => h) rfl (fun W _ => by kernel_rfl) (by assumption) ?_
 try simp only [Act.put, List.setIfInBounds_toArray, List.set_cons_succ, List.set_cons_zero]
 refine held_end (by kernel_rfl) ?_
 go_wp2_with fail
 try simp only [Act.put, List.setIfInBounds_toArray, List.set_cons_succ, List.set_cons_zero]
 obtain ⟨wU, hwd⟩ : ∃ W, W = wT2.drew := ⟨_, rfl⟩
 have hx : Below wT2.heap.size wT2 wU := by rw [hwd]; exact (Below.refl _ _).drew
 have A_U := Lib.hid (A_T2.out.below hx)
 have D_U := Lib.hid (D_T2.out.below hx)
 have GR_U := Lib.hid (GR_T2.out.below hx)
 have X13_U := Lib.hid (X13_T2.out.below hx)
 have HR_U := Lib.hid (HR_T2.out.below hx)
 have X17_U := Lib.hid (X17_T2.out.below hx)
 have PP_U := Lib.hid (PP_T2.out.below hx)
 have PQ_U := Lib.hid (PQ_T2.out.below hx)
 have K_U := Lib.hid (belowThen K_T2.out (Nat.le_refl _) hx)
 have z_U := hx.size
 clear hx
 refine wp_region_held_drew (S := fun W => SLaw w5 g13 g17 gn gi hi_ sg.1 sh.1 W) (by kernel_rfl) (by rw [← hwd]; exact ⟨K_U.out, X13_U.out, X17_U.out⟩) (fun hHeld => ?_)
 rw [← hwd] at hHeld ⊢
 clear hwd
 refine held_take 0 (sp.1) rfl (by kernel_rfl) (fun _ _ _ h => h) rfl (fun W _ => by kernel_rfl) (by assumption) ?_
 try simp only [Act.put, List.setIfInBounds_toArray, List.set_cons_succ, List.set_cons_zero]
 refine held_take 1 (.agg #[.string ⟨r.1.toArray⟩, vi, vr]) rfl (by kernel_rfl) (fun _ _ _ h => h) rfl (fun W hS => exec_loadC rfl rfl ((HL2.out.below hS.k).all).now) (by assumption) ?_
 try simp only [Act.put, List.setIfInBounds_toArray, List.set_cons_succ, List.set_cons_zero]
 refine held_one 2 rfl (by kernel_rfl) ?_
 refine stepw_call rfl 11 _ _ rfl #[.agg #[.string ⟨r.1.toArray⟩, vi, vr]] (by simp only [List.map_toArray, List.map_cons, List.map_nil]; rfl) (fun W => HE2.out _ W) ?_
 refine (ref20_any _ r hil wU (RV.out.below K_U.out)).mono ?_
 rintro x wU1 ⟨vq5, rfl, hq, hx⟩
 have HQ5 := Lib.hid hq
 clear hq
 have A_U1 := Lib.hid (A_U.out.below hx)
 have D_U1 := Lib.hid (D_U.out.below hx)
 have GR_U1 := Lib.hid (GR_U.out.below hx)
 have X13_U1 := Lib.hid (X13_U.out.below hx)
 have HR_U1 := Lib.hid (HR_U.out.below hx)
 have X17_U1 := Lib.hid (X17_U.out.below hx)
 have PP_U1 := Lib.hid (PP_U.out.below hx)
 have PQ_U1 := Lib.hid (PQ_U.out.below hx)
 have K_U1 := Lib.hid (belowThen K_U.out (Nat.le_refl _) hx)
 have z_U1 := hx.size
 clear hx
 refine ⟨_, rfl, ?_⟩
 have S17_U1 := Lib.hid (show SLaw w5 g13 g17 gn gi hi_ sg.1 sh.1 wU1 from ⟨K_U1.out, X13_U1.out, X17_U1.out⟩)
 refine ⟨S17_U1.out, ?_⟩
 try simp only [Act.put, List.setIfInBounds_toArray, List.set_cons_succ, List.set_cons_zero]
 refine held_one 3 rfl (by kernel_rfl) ?_
 refine stepw_call rfl 24 _ _ rfl #[vq5] (by simp only [List.map_toArray, List.map_cons, List.map_nil]; rfl) (fun W => HE7.out _ W) ?_
 refine (rfPaths_any _ r hil wU1 HQ5.out).mono ?_
 rintro x wU2 ⟨vp3, R3, rfl, hr1, hm1, he3, hx⟩
 have HR3 := Lib.hid (And.intro hr1 (And.intro hm1 he3))
 clear hr1 hm1 he3
 have A_U2 := Lib.hid (A_U1.out.below hx)
 have D_U2 := Lib.hid (D_U1.out.below hx)
 have GR_U2 := Lib.hid (GR_U1.out.below hx)
 have X13_U2 := Lib.hid (X13_U1.out.below hx)
 have HR_U2 := Lib.hid (HR_U1.out.below hx)
 have X17_U2 := Lib.hid (X17_U1.out.below hx)
 have PP_U2 := Lib.hid (PP_U1.out.below hx)
 have PQ_U2 := Lib.hid (PQ_U1.out.below hx)
 have K_U2 := Lib.hid (belowThen K_U1.out (Nat.le_refl _) hx)
 have z_U2 := hx.size
 clear hx
 refine ⟨_, rfl, ?_⟩
 have S17_U2 := Lib.hid (show SLaw w5 g13 g17 gn gi hi_ sg.1 sh.1 wU2 from ⟨K_U2.out, X13_U2.out, X17_U2.out⟩)
 refine ⟨S17_U2.out, ?_⟩
 try simp only [Act.put, List.setIfInBounds_toArray, List.set_cons_succ, List.set_cons_zero]
 refine held_one 4 rfl (by kernel_rfl) ?_
 refine stepw_call rfl 23 _ _ rfl #[sp.1, vp3] (by simp only [List.map_toArray, List.map_cons, List.map_nil]; rfl) (fun W => HE8.out _ W) ?_
 refine (samePathsT sp.1 vp3 (rising_unique _ _ HR1.out.1 HR3.out.1 (fun x => (HR1.out.2 x).trans (HR3.out.2.1 x).symm)) (by have := rising_lenT HR1.out.1 HR1.out.2; omega) wU2 PP_U2.out.slice HR3.out.2.2).mono ?_
 rintro x wU3 ⟨rfl, hx⟩
 have A_U3 := Lib.hid (A_U2.out.below hx)
 have D_U3 := Lib.hid (D_U2.out.below hx)
 have GR_U3 := Lib.hid (GR_U2.out.below hx)
 have X13_U3 := Lib.hid (X13_U2.out.below hx)
 have HR_U3 := Lib.hid (HR_U2.out.below hx)
 have X17_U3 := Lib.hid (X17_U2.out.below hx)
 have PP_U3 := Lib.hid (PP_U2.out.below hx)
 have PQ_U3 := Lib.hid (PQ_U2.out.below hx)
 have K_U3 := Lib.hid (belowThen K_U2.out (Nat.le_refl _) hx)
 have z_U3 := hx.size
 clear hx
 refine ⟨_, rfl, ?_⟩
 have S17_U3 := Lib.hid (show SLaw w5 g13 g17 gn gi hi_ sg.1 sh.1 wU3 from ⟨K_U3.out, X13_U3.out, X17_U3.out⟩)
 refine ⟨S17_U3.out, ?_⟩
 try simp only [Act.put, List.setIfInBounds_toArray, List.set_cons_succ, List.set_cons_zero]
 refine held_take 5 (.bool true) rfl (by kernel_rfl) (fun _ _ _ h => h) rfl (fun W _ => by kernel_rfl) (by assumption) ?_
 try simp only [Act.put, List.setIfInBounds_toArray, List.set_cons_succ, List.set_cons_zero]
 refine held_take 6 (sp.1) rfl (by kernel_rfl) (fun _ _ _ h => h) rfl (fun W _ => by kernel_rfl) (by assumption) ?_
 try simp only [Act.put, List.setIfInBounds_toArray, List.set_cons_succ, List.set_cons_zero]
 refine held_take 7 (sq.1) rfl (by kernel_rfl) (fun _ _ _ h => h) rfl (fun W _ => by kernel_rfl) (by assumption) ?_
 try simp only [Act.put, List.setIfInBounds_toArray, List.set_cons_succ, List.set_cons_zero]
 refine held_one 8 rfl (by kernel_rfl) ?_
 refine stepw_slice2T (E := EPP) rfl _ _ rfl sp sq rfl rfl ?_
 intro vl wU4 hsl hx
 have SL4 := Lib.hid hsl
 have A_U4 := Lib.hid (A_U3.out.below hx)
 have D_U4 := Lib.hid (D_U3.out.below hx)
 have GR_U4 := Lib.hid (GR_U3.out.below hx)
 have X13_U4 := Lib.hid (X13_U3.out.below hx)
 have HR_U4 := Lib.hid (HR_U3.out.below hx)
 have X17_U4 := Lib.hid (X17_U3.out.below hx)
 have PP_U4 := Lib.hid (PP_U3.out.below hx)
 have PQ_U4 := Lib.hid (PQ_U3.out.below hx)
 have K_U4 := Lib.hid (belowThen K_U3.out (Nat.le_refl _) hx)
 have z_U4 := hx.size
 clear hsl hx
 have S17_U4 := Lib.hid (show SLaw w5 g13 g17 gn gi hi_ sg.1 sh.1 wU4 from ⟨K_U4.out, X13_U4.out, X17_U4.out⟩)
 refine ⟨S17_U4.out, ?_⟩
 try simp only [Act.put, List.setIfInBounds_toArray, List.set_cons_succ, List.set_cons_zero]
 refine held_one 9 rfl (by kernel_rfl) ?_
 refine stepw_call rfl 25 _ _ rfl #[vl] (by simp only [List.map_toArray, List.map_cons, List.map_nil]; rfl) (fun W => HE9.out _ W) ?_
 have HRL1 := Lib.hid (show R1.length ≤ 8388608 by have := rising_lenT HR1.out.1 HR1.out.2; omega)
 have HRL2 := Lib.hid (show R2.length ≤ 8388608 by have := rising_lenT HR2.out.1 HR2.out.2; omega)
 have HLOWU5 := Lib.hid (show ∀ k, SS ([sp] ++ [sq]) k → wT.heap.size ≤ k from fun k h => by
   rcases ss_append h with h | h
   ·have := RPP.out k (ss_one h); omega
   ·have := RPQ.out k (ss_one h); omega)
 refine (apartPathsQ_any vl ([sp] ++ [sq]) _ wU4 SL4.out ((RoomsL.one (RoomN.of_own PP_U4.out)).append (RoomsL.one (RoomN.of_own PQ_U4.out))).of ((dist_one sp).append (dist_one sq) (fun k h1 h2 => by have := RPP.out k (ss_one h1); have := RPQ.out k (ss_one h2); omega)) (by simp) (two_len HRL1.out HRL2.out)).mono ?_
 rintro x wU5 ⟨rfl, ho⟩
 have A_U5 := Lib.hid (Agg.Own.onlyX A_U4.out ho (fun k hk hs => by have := RA.out k hk; have := HLOWU5.out k hs; omega))
 have D_U5 := Lib.hid (Agg.Own.onlyX D_U4.out ho (fun k hk hs => by have := RD.out k hk; have := HLOWU5.out k hs; omega))
 have GR_U5 := Lib.hid (Agg.Own.onlyX GR_U4.out ho (fun k hk hs => by have := RGR.out k hk; have := HLOWU5.out k hs; omega))
 have HR_U5 := Lib.hid (Agg.Own.onlyX HR_U4.out ho (fun k hk hs => by have := RHR.out k hk; have := HLOWU5.out k hs; omega))
 have X13_U5 := Lib.hid (Agg.Blk.onlyQ X13_U4.out ho (fun hs => by have := HGX13.out; have := HLOWU5.out _ hs; omega))
 have X17_U5 := Lib.hid (Agg.Blk.onlyQ X17_U4.out ho (fun hs => by have := HGX17.out; have := HLOWU5.out _ hs; omega))
 have K_U5 := Lib.hid (K_U4.out.trans (ho.below (B := w5.heap.size) K_U4.out.size (fun k hs => by have := HLOWU5.out k hs; omega)))
 have z_U5 := ho.size
 clear ho
 refine ⟨_, rfl, ?_⟩
 have S17_U5 := Lib.hid (show SLaw w5 g13 g17 gn gi hi_ sg.1 sh.1 wU5 from ⟨K_U5.out, X13_U5.out, X17_U5.out⟩)
 refine ⟨S17_U5.out, ?_⟩
 try simp only [Act.put, List.setIfInBounds_toArray, List.set_cons_succ, List.set_cons_zero]
 refine held_take 10 (.bool true) rfl (by kernel_rfl) (fun _ _ _ h => h) rfl (fun W _ => by kernel_rfl) (by assumption) ?_
 try simp only [Act.put, List.setIfInBounds_toArray, List.set_cons_succ, List.set_cons_zero]
 refine held_take 11 (.bool true) rfl (by kernel_rfl) (fun _ _ _ h => h) rfl (fun W _ => by kernel_rfl) (by assumption) ?_
 try simp only [Act.put, List.setIfInBounds_toArray, List.set_cons_succ, List.set_cons_zero]
 refine held_take 12 (sa.1) rfl (by kernel_rfl) (fun _ _ _ h => h) rfl (fun W _ => by kernel_rfl) (by assumption) ?_
 try simp only [Act.put, List.setIfInBounds_toArray, List.set_cons_succ, List.set_cons_zero]
 refine held_take 13 (sa2.1) rfl (by kernel_rfl) (fun _ _ _ h => h) rfl (fun W _ => by kernel_rfl) (by assumption) ?_
 try simp only [Act.put, List.setIfInBounds_toArray, List.set_cons_succ, List.set_cons_zero]
 refine held_take 14 (.pointer (some ⟨g13, 2, none⟩)) rfl (by kernel_rfl) (fun _ _ _ h => h) rfl (fun W _ => by kernel_rfl) (by assumption) ?_
 try simp only [Act.put, List.setIfInBounds_toArray, List.set_cons_succ, List.set_cons_zero]
 refine held_take 15 (sg.1) rfl (by kernel_rfl) (fun _ _ _ h => h) rfl (fun W hS => exec_loadC rfl rfl ((RvB.of_blk hS.b13).rcp).now) (by assumption) ?_
 try simp only [Act.put, List.setIfInBounds_toArray, List.set_cons_succ, List.set_cons_zero]
 refine held_take 16 (.pointer (some ⟨g17, 2, none⟩)) rfl (by kernel_rfl) (fun _ _ _ h => h) rfl (fun W _ => by kernel_rfl) (by assumption) ?_
 try simp only [Act.put, List.setIfInBounds_toArray, List.set_cons_succ, List.set_cons_zero]
 refine held_take 17 (sh.1) rfl (by kernel_rfl) (fun _ _ _ h => h) rfl (fun W hS => exec_loadC rfl rfl ((RvB.of_blk hS.b17).rcp).now) (by assumption) ?_
 try simp only [Act.put, List.setIfInBounds_toArray, List.set_cons_succ, List.set_cons_zero]
 refine held_one 18 rfl (by kernel_rfl) ?_
 refine stepw_slice4T rfl _ _ _ _ rfl sa sa2 sg sh rfl rfl rfl rfl ?_
 intro vm wU6 hsl hx
 have SL6 := Lib.hid hsl
 have A_U6 := Lib.hid (A_U5.out.below hx)
 have D_U6 := Lib.hid (D_U5.out.below hx)
 have GR_U6 := Lib.hid (GR_U5.out.below hx)
 have X13_U6 := Lib.hid (X13_U5.out.below hx)
 have HR_U6 := Lib.hid (HR_U5.out.below hx)
 have X17_U6 := Lib.hid (X17_U5.out.below hx)
 have K_U6 := Lib.hid (belowThen K_U5.out (Nat.le_refl _) hx)
 have z_U6 := hx.size
 clear hsl hx
 have S17_U6 := Lib.hid (show SLaw w5 g13 g17 gn gi hi_ sg.1 sh.1 wU6 from ⟨K_U6.out, X13_U6.out, X17_U6.out⟩)
 refine ⟨S17_U6.out, ?_⟩
 try simp only [Act.put, List.setIfInBounds_toArray, List.set_cons_succ, List.set_cons_zero]
 refine held_one 19 rfl (by kernel_rfl) ?_
 refine stepw_call rfl 26 _ _ rfl #[vm] (by simp only [List.map_toArray, List.map_cons, List.map_nil]; rfl) (fun W => HE10.out _ W) ?_
 have HDS := Lib.hid (show Dist ((([sa] ++ [sa2]) ++ [sg]) ++ [sh]) from (((dist_one sa).append (dist_one sa2) (fun k h1 h2 => by have := RA.out k (ss_one h1); have := RD.out k (ss_one h2); omega)).append (dist_one sg) (fun k h1 h2 => by
   have := RGR.out k (ss_one h2)
   rcases ss_append h1 with h | h
   ·have := RA.out k (ss_one h); omega
   ·have := RD.out k (ss_one h); omega)).append (dist_one sh) (fun k h1 h2 => by
   have := RHR.out k (ss_one h2)
   rcases ss_append h1 with h | h
   ·rcases ss_append h with h | h
    ·have := RA.out k (ss_one h); omega
    ·have := RD.out k (ss_one h); omega
   ·have := RGR.out k (ss_one h); omega))
 have HLOWU7 := Lib.hid (show ∀ k, SS ((([sa] ++ [sa2]) ++ [sg]) ++ [sh]) k → w5.heap.size ≤ k ∧ ¬ k = g13 ∧ ¬ k = g17 from fun k h => by
   have h13 := HGX13.out
   have h17 := HGX17.out
   rcases ss_append h with h | h
   ·rcases ss_append h with h | h
    ·rcases ss_append h with h | h
     ·have := RA.out k (ss_one h); omega
     ·have := RD.out k (ss_one h); omega
    ·have := RGR.out k (ss_one h); omega
   ·have := RHR.out k (ss_one h); omega)
 refine (apartBytes_any vm ((([sa] ++ [sa2]) ++ [sg]) ++ [sh]) _ wU6 SL6.out ((((RoomsL.one (RoomN.of_own A_U6.out)).append (RoomsL.one (RoomN.of_own D_U6.out))).append (RoomsL.one (RoomN.of_own GR_U6.out))).append (RoomsL.one (RoomN.of_own HR_U6.out))).of HDS.out (by simp) (four_len (by have := HLA.out; omega) (by have := HLA.out; omega) (by have := HGL.out.2; omega) (by have := HGL.out.2; omega))).mono ?_
 rintro x wU7 ⟨rfl, ho⟩
 have X13_U7 := Lib.hid (Agg.Blk.onlyQ X13_U6.out ho (fun hs => by have := HGX13.out; have := HLOWU7.out _ hs; omega))
 have X17_U7 := Lib.hid (Agg.Blk.onlyQ X17_U6.out ho (fun hs => by have := HGX17.out; have := HLOWU7.out _ hs; omega))
 have K_U7 := Lib.hid (K_U6.out.trans (ho.below (B := w5.heap.size) K_U6.out.size (fun k hs => by have := HLOWU7.out k hs; omega)))
 have z_U7 := ho.size
 clear ho
 refine ⟨_, rfl, ?_⟩
 have S17_U7 := Lib.hid (show SLaw w5 g13 g17 gn gi hi_ sg.1 sh.1 wU7 from ⟨K_U7.out, X13_U7.out, X17_U7.out⟩)
 refine ⟨S17_U7.out, ?_⟩
 try simp only [Act.put, List.setIfInBounds_toArray, List.set_cons_succ, List.set_cons_zero]
 refine held_take 20 (.bool true) rfl (by kernel_rfl) (fun _ _ _ h => h) rfl (fun W _ => by kernel_rfl) (by assumption) ?_
 try simp only [Act.put, List.setIfInBounds_toArray, List.set_cons_succ, List.set_cons_zero]
 refine held_take 21 (.bool true) rfl (by kernel_rfl) (fun _ _ _ h => h) rfl (fun W _ => by kernel_rfl) (by assumption) ?_
 try simp only [Act.put, List.setIfInBounds_toArray, List.set_cons_succ, List.set_cons_zero]
 refine held_take 22 (.agg (rsC r.1 ui ur)) rfl (by kernel_rfl) (fun _ _ _ h => h) rfl (fun W hS => exec_loadC rfl rfl ((HL5.out.below hS.k).all).now) (by assumption) ?_
 try simp only [Act.put, List.setIfInBounds_toArray, List.set_cons_succ, List.set_cons_zero]
 refine held_take 23 (.agg #[.string ⟨r.1.toArray⟩, vi, vr]) rfl (by kernel_rfl) (fun _ _ _ h => h) rfl (fun W hS => exec_loadC rfl rfl ((HL2.out.below hS.k).all).now) (by assumption) ?_
 try simp only [Act.put, List.setIfInBounds_toArray, List.set_cons_succ, List.set_cons_zero]
 refine held_one 24 rfl (by kernel_rfl) ?_
 refine stepw_call rfl 11 _ _ rfl #[.agg #[.string ⟨r.1.toArray⟩, vi, vr]] (by simp only [List.map_toArray, List.map_cons, List.map_nil]; rfl) (fun W => HE2.out _ W) ?_
 refine (ref20_any _ r hil wU7 (RV.out.below K_U7.out)).mono ?_
 rintro x wU8 ⟨vq6, rfl, hq, hx⟩
 have HQ6 := Lib.hid hq
 clear hq
 have X13_U8 := Lib.hid (X13_U7.out.below hx)
 have X17_U8 := Lib.hid (X17_U7.out.below hx)
 have K_U8 := Lib.hid (belowThen K_U7.out (Nat.le_refl _) hx)
 have z_U8 := hx.size
 clear hx
 refine ⟨_, rfl, ?_⟩
 have S17_U8 := Lib.hid (show SLaw w5 g13 g17 gn gi hi_ sg.1 sh.1 wU8 from ⟨K_U8.out, X13_U8.out, X17_U8.out⟩)
 refine ⟨S17_U8.out, ?_⟩
 try simp only [Act.put, List.setIfInBounds_toArray, List.set_cons_succ, List.set_cons_zero]
 refine held_one 25 rfl (by kernel_rfl) ?_
 refine stepw_call rfl 21 _ _ rfl #[.agg (rsC r.1 ui ur), vq6] (by simp only [List.map_toArray, List.map_cons, List.map_nil]; rfl) (fun W => HE5.out _ W) ?_
 refine (HSM.out _ _ r hil hrl wU8 (RX.out.below K_U8.out) HQ6.out).mono ?_
 rintro x wU9 ⟨rfl, hx⟩
 have X13_U9 := Lib.hid (X13_U8.out.below hx)
 have X17_U9 := Lib.hid (X17_U8.out.below hx)
 have K_U9 := Lib.hid (belowThen K_U8.out (Nat.le_refl _) hx)
 have z_U9 := hx.size
 clear hx
 refine ⟨_, rfl, ?_⟩
 have S17_U9 := Lib.hid (show SLaw w5 g13 g17 gn gi hi_ sg.1 sh.1 wU9 from ⟨K_U9.out, X13_U9.out, X17_U9.out⟩)
 refine ⟨S17_U9.out, ?_⟩
 try simp only [Act.put, List.setIfInBounds_toArray, List.set_cons_succ, List.set_cons_zero]
 refine held_take 26 (.bool true) rfl (by kernel_rfl) (fun _ _ _ h => h) rfl (fun W _ => by kernel_rfl) (by assumption) ?_
 try simp only [Act.put, List.setIfInBounds_toArray, List.set_cons_succ, List.set_cons_zero]
 refine held_take 27 (.bool true) rfl (by kernel_rfl) (fun _ _ _ h => h) rfl (fun W _ => by kernel_rfl) (by assumption) ?_
 try simp only [Act.put, List.setIfInBounds_toArray, List.set_cons_succ, List.set_cons_zero]
 refine held_take 28 (u') rfl (by kernel_rfl) (fun _ _ _ h => h) rfl (fun W _ => by kernel_rfl) (by assumption) ?_
 try simp only [Act.put, List.setIfInBounds_toArray, List.set_cons_succ, List.set_cons_zero]
 refine held_take 29 (u) rfl (by kernel_rfl) (fun _ _ _ h => h) rfl (fun W _ => by kernel_rfl) (by assumption) ?_
 try simp only [Act.put, List.setIfInBounds_toArray, List.set_cons_succ, List.set_cons_zero]
 refine held_one 30 rfl (by kernel_rfl) ?_
 refine stepw_call rfl 27 _ _ rfl #[u', u] (by simp only [List.map_toArray, List.map_cons, List.map_nil]; rfl) (fun W => HE11.out _ W) ?_
 refine (keptBytes_any u' u b hbl _ wU9 ((HIN.out.below K_U9.out).lent (by rw [marks_length]; decide)) (BV.out.below K_U9.out)).mono ?_
 rintro x wUA ⟨rfl, hx⟩
 have X13_UA := Lib.hid (X13_U9.out.below hx)
 have X17_UA := Lib.hid (X17_U9.out.below hx)
 have K_UA := Lib.hid (belowThen K_U9.out (Nat.le_refl _) hx)
 have z_UA := hx.size
 clear hx
 refine ⟨_, rfl, ?_⟩
 have S17_UA := Lib.hid (show SLaw w5 g13 g17 gn gi hi_ sg.1 sh.1 wUA from ⟨K_UA.out, X13_UA.out, X17_UA.out⟩)
 refine ⟨S17_UA.out, ?_⟩
 try simp only [Act.put, List.setIfInBounds_toArray, List.set_cons_succ, List.set_cons_zero]
 refine held_take 31 (.bool true) rfl (by kernel_rfl) (fun _ _ _ h => h) rfl (fun W _ => by kernel_rfl) (by assumption) ?_
 try simp only [Act.put, List.setIfInBounds_toArray, List.set_cons_succ, List.set_cons_zero]
 refine held_take 32 (.bool true) rfl (by kernel_rfl) (fun _ _ _ h => h) rfl (fun W _ => by kernel_rfl) (by assumption) ?_
 try simp only [Act.put, List.setIfInBounds_toArray, List.set_cons_succ, List.set_cons_zero]
 refine held_one 33 rfl (by kernel_rfl) ?_
 refine stepw_call rfl 6 _ _ rfl #[] (by simp) (fun W => HE12.out _ W) ?_
 refine (awake20_any wUA).mono ?_
 rintro x wUB ⟨rfl, hx⟩
 have X13_UB := Lib.hid (X13_UA.out.below hx)
 have X17_UB := Lib.hid (X17_UA.out.below hx)
 have K_UB := Lib.hid (belowThen K_UA.out (Nat.le_refl _) hx)
 have z_UB := hx.size
 clear hx
 refine ⟨_, rfl, ?_⟩
 have S17_UB := Lib.hid (show SLaw w5 g13 g17 gn gi hi_ sg.1 sh.1 wUB from ⟨K_UB.out, X13_UB.out, X17_UB.out⟩)
 refine ⟨S17_UB.out, ?_⟩
 try simp only [Act.put, List.setIfInBounds_toArray, List.set_cons_succ, List.set_cons_zero]
 refine held_take 34 (.bool true) rfl (by kernel_rfl) (fun _ _ _ h => h) rfl (fun W _ => by kernel_rfl) (by assumption) ?_
 try simp only [Act.put, List.setIfInBounds_toArray, List.set_cons_succ, List.set_cons_zero]
 refine held_take 35 (.bool true) rfl (by kernel_rfl) (fun _ _ _ h => h) rfl (fun W _ => by kernel_rfl) (by assumption) ?_
 try simp only [Act.put, List.setIfInBounds_toArray, List.set_cons_succ, List.set_cons_zero]
 refine held_end (by kernel_rfl) ?_
 go_wp2_with fail
 go_ret
 exact ⟨rfl, belowThen HX5.out (Nat.le_refl _) K_UB.out⟩
end Go.Proofs.YtdebbmembkbniaaGreat
