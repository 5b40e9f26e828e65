/- spencelaw09.PackPuts. -/
import Derived.Test.YtfiadgdinhmgbaaGreatDoorEAU
import Derived.Test.YtfiadgdinhmgbaaGreatDoorEBJ
import Derived.Test.YtfiadgdinhmgbaaGreatDoorEBK
namespace Go.Agg
open Go.RowKit
section
variable {P : Program} {ops : Array Oper} {rest : List Oper} {o : Oper} {a : Act} {w : World} {Q : Exit → Act → World → Prop} {α : Type} {E : Elem P α}
theorem wpList_two (hg : Region.wanted o (yielded ops a.tmps) = true) (x y : Operand) (ho : o.op = .buildSlice E.st 2 #[(0, x), (1, y)]) (vx vy : α) (hx : a.eval x = E.val vx) (hy : a.eval y = E.val vy)
  (h : ∀ v' w', SliceOf E w' v' [vx, vy] → Below w.heap.size w w' → wpList P ops Q rest (a.put o.dst v') w') : wpList P ops Q (o :: rest) a w :=
 wpList_valw hg (v := .slice (some ⟨w.heap.size, 0, none⟩) 2 2) (w' := w.alloc (.cells ((E.val vx).cells ++ (E.val vy).cells) E.ty)) (by simp [execOp, ho, hx, hy, run_slice_two])
  (h _ _ (slice_of_block2 (Blk.new w E.ty _)) ((Below.refl _ _).alloc (Nat.le_refl _) _))
end
end Go.Agg
namespace Go.Proofs.YtfiadgdinhmgbaaGreatDoor
open Go.RowKit Pl Go.Agg Go.Tr
theorem pkB_len (t : T) : (pkB t).length ≤ 4096 := by
 rw [pkB]
 split
 ·next h => exact (pkE_zero.1 h).2
 ·simp
theorem sa_range {base : Nat} {w : World} {s : SV} {l : List UInt8} (h : Agg.Own EB base w s.1 l) : ∀ b, s.1.ownBlock = some b → base ≤ b ∧ b < w.heap.size := fun b hb => own_range h b (mem_ownB.2 hb)
set_option maxRecDepth 100000 in
set_option maxHeartbeats 16000000 in
theorem packPuts_any (vn : Value) (t : T) (hm : msz t ≤ 1048576) (w : World) (hv : NodeAt w vn t) :
  Calls Tryz.prog 6 #[vn] w fun e w' => e = .returned (.bool true) ∧ Below w.heap.size w w' := by
 obtain ⟨x, rfl, hx⟩ := hv
 have HN := Lib.hid hx
 clear hx
 go_enter Tryz.func6, Tryz.ntmps6
 go_wp2_with (first | (refine wpList_box rfl 26 _ rfl (ndC x) rfl ?_; intro g1 w1 hb hx hg; have HB1 := Lib.hid hb; have HX1 := Lib.hid hx; clear hb hx hg) | (with_reducible refine wpList_loadL (NdL.of_blk HB1.out).all rfl _ rfl rfl ?_))
 refine (size_any (count t) t (Nat.le_refl _) hm 1500 (by omega) (.agg (ndC x)) w1 ⟨x, rfl, HN.out.below HX1.out⟩).mono ?_
 rintro e w2 ⟨rfl, hx⟩
 have HB2 := Lib.hid (HB1.out.below hx)
 have HX2 := Lib.hid (belowThen HX1.out (Nat.le_refl _) hx)
 clear hx
 obtain ⟨z, hz⟩ : ∃ z, szT t 1500 = z := ⟨_, rfl⟩
 rw [hz]
 clear hz
 by_cases hg : 1500 < z
 ·have hd : decide (1500 < (z : Int)) = true := by simp; omega
  go_wp2_with fail
  refine (awake09_any _).mono ?_
  rintro e w3 ⟨rfl, hx⟩
  have HX3 := Lib.hid (belowThen HX2.out (Nat.le_refl _) hx)
  clear hx
  go_wp2_with fail
  go_ret
  exact ⟨rfl, HX3.out⟩
 have hd : decide (1500 < (z : Int)) = false := by simp; omega
 go_wp2_with (first | (with_reducible refine wpList_loadL (NdL.of_blk HB2.out).all rfl _ rfl rfl ?_))
 refine (lentNode_any t hm (.agg (ndC x)) w2 ⟨x, rfl, HN.out.below HX2.out⟩).mono ?_
 rintro e w3 ⟨xi, bs, rfl, hl, hx⟩
 have HL3 := Lib.hid hl
 have HRG := Lib.hid (LenT.range _ _ _ hl)
 have HB3 := Lib.hid (HB2.out.below hx)
 have HX3 := Lib.hid (belowThen HX2.out (Nat.le_refl _) hx)
 clear hl hx
 go_wp2_with (first | (refine wpList_new rfl rfl rfl 26 3 15 rfl rfl rfl (by decide) (ndC ndZ) (ndC xi) nd_zero rfl (nd_info _) (ndC_one _) rfl (by first | (simp; done) | simp [Act.put]) ?_; intro g3 w4 hb hx hg; have HC4 := Lib.hid hb; have HB4 := Lib.hid (HB3.out.below hx); have HL4 := Lib.hid (HL3.out.below hx); have HX4 := Lib.hid (belowThen HX3.out (Nat.le_refl _) hx); have HS34 := Lib.hid (show w3.heap.size ≤ w4.heap.size from hx.size); clear hb hx hg) | (with_reducible refine wpList_loadL (NdL.of_blk HC4.out).all rfl _ rfl rfl ?_))
 have HLT4 := Lib.hid (show g1 < w4.heap.size ∧ g3 < w4.heap.size from ⟨HB4.out.lt, HC4.out.lt⟩)
 refine (pack_any (.agg (ndC xi)) t w4 ⟨xi, rfl, LenT.reads _ _ _ HL4.out⟩).mono ?_
 rintro e w5 ⟨va, rfl, ho, hx⟩
 obtain ⟨sa, rfl⟩ := own_sv ho
 have HA5 := Lib.hid ho
 have HC5 := Lib.hid (HC4.out.below hx)
 have HB5 := Lib.hid (HB4.out.below hx)
 have HL5 := Lib.hid (HL4.out.below hx)
 have HX5 := Lib.hid (belowThen HX4.out (Nat.le_refl _) hx)
 have HS45 := Lib.hid hx.size
 have HRA := Lib.hid (sa_range ho)
 clear ho hx
 go_wp2_with (first | (with_reducible refine wpList_loadL (NdL.of_blk HB5.out).all rfl _ rfl rfl ?_))
 refine (rpack_any (.agg (ndC x)) t hm w5 ⟨x, rfl, HN.out.below HX5.out⟩).mono ?_
 rintro e w6 ⟨vb, rfl, ho, hx⟩
 have HR6 := Lib.hid ho.slice
 have HA6 := Lib.hid (HA5.out.below hx)
 have HC6 := Lib.hid (HC5.out.below hx)
 have HB6 := Lib.hid (HB5.out.below hx)
 have HL6 := Lib.hid (HL5.out.below hx)
 have HX6 := Lib.hid (belowThen HX5.out (Nat.le_refl _) hx)
 have HS56 := Lib.hid hx.size
 clear ho hx
 go_wp2_with (first | (with_reducible refine wpList_loadL (NdL.of_blk HC6.out).all rfl _ rfl rfl ?_))
 refine (pack_any (.agg (ndC xi)) t w6 ⟨xi, rfl, LenT.reads _ _ _ HL6.out⟩).mono ?_
 rintro e w7 ⟨vc, rfl, ho, hx⟩
 obtain ⟨sc, rfl⟩ := own_sv ho
 have HRC := Lib.hid (sa_range ho)
 have HD7 := Lib.hid ho
 have HR7 := Lib.hid (SliceOf.below HR6.out hx)
 have HA7 := Lib.hid (HA6.out.below hx)
 have HC7 := Lib.hid (HC6.out.below hx)
 have HB7 := Lib.hid (HB6.out.below hx)
 have HL7 := Lib.hid (HL6.out.below hx)
 have HX7 := Lib.hid (belowThen HX6.out (Nat.le_refl _) hx)
 clear ho hx
 have hee : ∀ n : Nat, decide ((n : Int) = (n : Int)) = true := fun n => by simp
 have hpl := pkB_len t
 have HSB := Lib.hid (fun q : Later w7 => (show Calls Tryz.prog 16 #[sa.1, vb] q.w fun e w' => e = .returned (.bool true) ∧ Below q.w.heap.size q.w w' by
  have h := sameBytes_any sa.1 vb (pkB t) (pkB t) (by omega) (by omega) q.w (HA7.out.below q.h).slice (SliceOf.below HR7.out q.h)
  rwa [decide_eq_true (rfl : pkB t = pkB t)] at h))
 have HPS := Lib.hid (fun q : Later w7 => psize_any (.agg (ndC xi)) t q.w ⟨xi, rfl, LenT.reads _ _ _ (HL7.out.below q.h)⟩)
 have HRS := Lib.hid (fun q : Later w7 => rsize_any (.agg (ndC x)) t hm q.w ⟨x, rfl, NodeV.below q.h _ _ (HN.out.below HX7.out)⟩)
 have HC7L := Lib.hid (NdL.of_blk HC7.out).all
 have HB7L := Lib.hid (NdL.of_blk HB7.out).all
 go_wp2_with fail
 try simp only [List.append_eq, List.cons_append, List.nil_append]
 try simp only [Act.put, List.setIfInBounds_toArray, List.set_cons_succ, List.set_cons_zero]
 refine Agg.wp_region_mid 18 20 (fun w' => ∃ x : Later w7, w' = x.w) (by kernel_rfl) (by kernel_rfl) ⟨⟨_, (Below.refl _ _).drew⟩, rfl⟩ ?_
 simp only [List.take_succ_cons, List.take_zero, List.drop_succ_cons, List.drop_zero]
 repeat (first | go_big_quiet_skip | ((first | (with_reducible refine wpQuiet_loadL HC7L.out rfl _ rfl rfl ?_) | (with_reducible refine wpQuiet_loadL HB7L.out rfl _ rfl rfl ?_)); simp only [Act.put, List.setIfInBounds_toArray, List.set_cons_succ, List.set_cons_zero]) | go_big_quiet_step ((first | (go_at_call 16; exact Calls.later (HSB.out _)) | (go_at_call 24; exact Calls.later (HPS.out _)) | (go_at_call 25; exact Calls.later (HRS.out _)))))
 refine wpQuiet_nil ?_
 intro _ hw'
 obtain ⟨x1, rfl⟩ := hw'
 have HDa := Lib.hid (HD7.out.below x1.h)
 have HAa := Lib.hid (HA7.out.below x1.h)
 have HCa := Lib.hid (HC7.out.below x1.h)
 have HBa := Lib.hid (HB7.out.below x1.h)
 have HLa := Lib.hid (HL7.out.below x1.h)
 have HXa := Lib.hid (belowThen HX7.out (Nat.le_refl _) x1.h)
 go_wp2_with (first | (refine Agg.wpList_two (E := EBB) rfl _ _ rfl sa sc rfl rfl ?_; intro vm wb hs hx; have HSLb := Lib.hid hs; have HDb := Lib.hid (HDa.out.below hx); have HAb := Lib.hid (HAa.out.below hx); have HCb := Lib.hid (HCa.out.below hx); have HBb := Lib.hid (HBa.out.below hx); have HLb := Lib.hid (HLa.out.below hx); have HXb := Lib.hid (belowThen HXa.out (Nat.le_refl _) hx); clear hs hx))
 have HDS := Lib.hid (show Dist ([sa] ++ [sc]) from (dist_one sa).append (dist_one sc) (fun k h1 h2 => by have := HRA.out k (ss_one h1); have := HRC.out k (ss_one h2); have := HS56.out; omega))
 have HSS := Lib.hid (show ∀ k, SS ([sa] ++ [sc]) k → w4.heap.size ≤ k from fun k h => by
  rcases ss_append h with h | h
  ·exact (HRA.out k (ss_one h)).1
  ·have := (HRC.out k (ss_one h)).1; have := HS45.out; have := HS56.out; omega)
 have HROOM := Lib.hid ((RoomsL.one (RoomN.of_own HAb.out)).append (RoomsL.one (RoomN.of_own HDb.out)))
 refine (apartBytes_any vm ([sa] ++ [sc]) _ wb HSLb.out HROOM.out.of HDS.out (by simp) (fun j => by
  show ((([pkB t] ++ [pkB t])[j]?).getD []).length ≤ _
  match j with
  | 0 => simp; omega
  | 1 => simp; omega
  | j + 2 => simp)).mono ?_
 rintro e wc ⟨rfl, ho⟩
 have HCc := Lib.hid (NdL.of_blk (Agg.Blk.keepO HCb.out ho (fun e => by have h1 := HSS.out _ e; have h2 := HLT4.out.2; omega))).all
 have HBc := Lib.hid (NdL.of_blk (Agg.Blk.keepO HBb.out ho (fun e => by have h1 := HSS.out _ e; have h2 := HLT4.out.1; omega))).all
 have HLc := Lib.hid (LenT.only ho _ _ _ HLb.out (fun k hk e => by have h1 := HSS.out _ e; have h2 := (HRG.out k hk).2; have h3 := HS34.out; omega))
 have HXc := Lib.hid (HXb.out.trans (ho.below (B := w.heap.size) HXb.out.size (fun i hi => Nat.le_trans HX4.out.size (HSS.out i hi))))
 have HKN := Lib.hid (fun q : Later wc => keptNode_all (count t) t (Nat.le_refl _) hm xi x bs w2.heap.size q.w (HLc.out.below q.h) (NodeV.below q.h _ _ (HN.out.below HXc.out)))
 clear ho
 go_wp2_with fail
 refine ⟨fun w' => ∃ x : Later wc, w' = x.w, ⟨Later.mk' wc, rfl⟩, ?_⟩
 repeat (first | go_big_quiet_skip | ((first | (with_reducible refine wpQuiet_loadL HCc.out rfl _ rfl rfl ?_) | (with_reducible refine wpQuiet_loadL HBc.out rfl _ rfl rfl ?_)); simp only [Act.put, List.setIfInBounds_toArray, List.set_cons_succ, List.set_cons_zero]) | go_big_quiet_step ((first | (go_at_call 27; exact Calls.later (HKN.out _)) | (go_at_call 8; exact Calls.later (awake09_any _)))))
 refine wpQuiet_nil ?_
 intro _ hw'
 obtain ⟨x2, rfl⟩ := hw'
 go_wp2_with fail
 go_ret
 exact ⟨rfl, belowThen HXc.out (Nat.le_refl _) x2.h⟩
end Go.Proofs.YtfiadgdinhmgbaaGreatDoor
