/- resolve.Get. -/
import Derived.Test.YtdebbmembkbniaaGreatTAV
import Derived.Test.YtdebbmembkbniaaGreatTAD
import Derived.Test.YtdebbmembkbniaaGreatTAU
import Derived.Test.YtdebbmembkbniaaGreatTAJ
namespace Go.Agg
open Go.RowKit
theorem exec_copyC {P : Program} {o : Oper} {a : Act} {w w' : World} {dT sT : TypeId} {x y : Operand} {vx vy r : Value} (ho : o.op = .call { callee := .builtin .copy, args := #[x, y], argTypes := #[dT, sT] }) (hx : a.eval x = vx) (hy : a.eval y = vy) (hrun : (Builtin.copy_ #[dT, sT] o.type #[vx, vy]).run P w = .ok r w') : (execOp a.eval o).run P w = .ok (.value r) w' := by
 simp [execOp, ho, resolve, invoke, builtin, hx, hy, hrun]
end Go.Agg
namespace Go.Proofs.YtdebbmembkbniaaGreat
open Go.RowKit Pl Go.Agg
theorem gt_under : Tryz.prog.underlying 99 = some (.struct (Tryz.prog.fieldsOf 99)) := by kernel_rfl
theorem gt_info {v : Value} : (Tryz.prog.info? 99).map (·.size) = some (#[v] : Array Value).size := by kernel_rfl
theorem gt_build (gc : Nat) (W : World) : (Instr.build 99 #[(0, .pointer (some ⟨gc, 0, none⟩))]).run Tryz.prog W = .ok (.agg #[.pointer (some ⟨gc, 0, none⟩)]) W := by kernel_rfl
theorem own_only {base g : Nat} {w w' : World} {v : Value} {l : List Rin} {b : Nat} {s : Option (List UInt8)} (h : Agg.Own ERi base w v l) (hc : CuS b g w s) (ho : Only (· = g) w w') : Agg.Own ERi base w' v l := by
 obtain ⟨cs, hb⟩ := hc.blk
 exact h.onlyB ho hb (by decide)
theorem rin_list {w : World} {g : Nat} {n : List UInt8} (h : Blk w g 77 (riC (n, ⟨(z20, []), rfl⟩))) : Blk w g 77 ([Value.string ⟨n.toArray⟩] ++ (Lib.byteCells z20 ++ [Value.string ⟨#[]⟩])).toArray := by
 have e : riC (n, ⟨(z20, []), rfl⟩) = ([Value.string ⟨n.toArray⟩] ++ (Lib.byteCells z20 ++ [Value.string ⟨#[]⟩])).toArray := by simp [riC, pC, hC]
 rw [← e]; exact h
theorem rin_copied (n : List UInt8) (s : Option (List UInt8)) : (([Value.string ⟨n.toArray⟩] ++ (Lib.byteCells z20 ++ [Value.string ⟨#[]⟩])).take 1 ++ Lib.byteCells ((sRaw 20 s).1.take 20) ++ ([Value.string ⟨n.toArray⟩] ++ (Lib.byteCells z20 ++ [Value.string ⟨#[]⟩])).drop (1 + min (sRaw 20 s).1.length 20)).toArray = riC (n, ⟨((sHash s).1, []), sHash_length _⟩) := by
 have hl : (sRaw 20 s).1.length ≤ 20 := by
  cases s with
  | none => simp [sRaw]
  | some r => simp only [sRaw]; split <;> simp <;> omega
 have hz : (Lib.byteCells z20).length = 20 := rfl
 rw [List.take_of_length_le hl, Nat.min_eq_left hl]
 change _ = #[Value.string ⟨n.toArray⟩] ++ ((Lib.byteCells ((sRaw 20 s).1 ++ z20.drop (sRaw 20 s).1.length)).toArray ++ #[Value.string ⟨([] : List UInt8).toArray⟩])
 generalize (sRaw 20 s).1 = q at *
 apply Array.ext'
 have e : ([Value.string ⟨n.toArray⟩] ++ (Lib.byteCells z20 ++ [Value.string ⟨#[]⟩])).drop (1 + q.length) = (Lib.byteCells z20).drop q.length ++ [Value.string ⟨#[]⟩] := by
  rw [List.drop_append, List.drop_eq_nil_of_le (by simp), List.nil_append, show 1 + q.length - [Value.string ⟨n.toArray⟩].length = q.length by simp, List.drop_append_of_le_length (by omega)]
 rw [e]
 simp [Lib.byteCells, List.append_assoc]
theorem riC_setName (n h p p' : List UInt8) (hl : h.length = 20) : (riC (n, ⟨(h, p), hl⟩)).setIfInBounds 21 (.string ⟨p'.toArray⟩) = riC (n, ⟨(h, p'), hl⟩) := by
 unfold riC pC
 have hz : (hC h).size = 20 := by rw [hC_size, hl]
 rw [show (21 : Nat) = (#[Value.string ⟨n.toArray⟩] : Array Value).size + (hC h).size by rw [hz]; rfl, ← Array.append_assoc, ← Array.append_assoc]
 rw [Array.setIfInBounds_append_right (by simp)]
 simp
theorem sIn_eq {s s1 s3 : Option (List UInt8)} {n p : List UInt8} (h1 : sText 24 s = (n, s1)) (h2 : sText 24 (sHash s1).2 = (p, s3)) : sIn s = ((n, ⟨((sHash s1).1, p), sHash_length _⟩), s3) := by
 unfold sIn
 simp only [h1, h2]
set_option maxRecDepth 100000 in
set_option maxHeartbeats 4000000 in
theorem gname_any (base gc : Nat) (s : Option (List UInt8)) (w : World) (hl : stLen s ≤ 16777216) (h : CuS base gc w s) :
  Calls Tryz.prog 41 #[.agg #[.pointer (some ⟨gc, 0, none⟩)]] w fun e w' => e = .returned (.string ⟨(sText 24 s).1.toArray⟩) ∧ CuS base gc w' (sText 24 s).2 ∧ Only (· = gc) w w' := by
 have HC := Lib.hid h
 clear h
 go_enter Tryz.func41, Tryz.ntmps41
 go_wp2_with (first | (with_reducible refine wpList_box rfl 99 _ rfl #[.pointer (some ⟨gc, 0, none⟩)] rfl ?_; intro g1 w1 hb hx1 hg; have HL1 := Lib.hid (hb.one (P := Tryz.prog) (ty := 96) 0 rfl Tryz.underlying96 rfl); have HC1 := Lib.hid (HC.out.below hx1); have HX1 := Lib.hid hx1; clear hb hx1 hg) | (with_reducible refine wpList_loadL HL1.out rfl _ rfl rfl ?_))
 refine (stext_any base gc 24 s w1 hl HC1.out).mono ?_
 rintro e w2 ⟨u, rfl, hu, hc, ho⟩
 have HU := Lib.hid hu.slice
 have HC2 := Lib.hid hc
 have HO2 := Lib.hid ((Only.of_below (S := fun k => k = gc) HX1.out).trans ho (fun i hi h => h))
 clear hu hc ho
 go_wp2_with (first | (with_reducible refine wpList_toStr HU.out _ rfl rfl rfl ?_))
 go_ret
 exact ⟨rfl, HC2.out, HO2.out⟩
set_option maxRecDepth 100000 in
set_option maxHeartbeats 8000000 in
theorem ginput_any (base gc : Nat) (s : Option (List UInt8)) (w : World) (hl : stLen s ≤ 16777216) (h : CuS base gc w s) :
  Calls Tryz.prog 43 #[.agg #[.pointer (some ⟨gc, 0, none⟩)]] w fun e w' => e = .returned (.agg (riC (sIn s).1)) ∧ CuS base gc w' (sIn s).2 ∧ Only (· = gc) w w' := by
 have HC := Lib.hid h
 have hgc := h.lt
 have HER := Lib.hid (enters_of Tryz.func81 (by kernel_rfl) rfl : ∀ args w, (callFunc 81 args).run Tryz.prog w = .ok (.enter 81 args) w)
 clear h
 go_enter Tryz.func43, Tryz.ntmps43
 go_wp2_with (first | (with_reducible refine wpList_box rfl 99 _ rfl #[.pointer (some ⟨gc, 0, none⟩)] rfl ?_; intro g1 w1 hb hx1 hg1; have HG1 := Lib.hid hb; have HC1 := Lib.hid (HC.out.below hx1); have HX1 := Lib.hid hx1; clear hb) | (with_reducible refine Agg.wpList_zero rfl 77 rfl (riC zR) riC_zero ?_; intro g2 w2 hb hx hg2; have HB2 := Lib.hid hb; have HG2 := Lib.hid (HG1.out.below hx); have HL2 := Lib.hid (HG2.out.loads (P := Tryz.prog) gt_under rfl gt_info); have HC2 := Lib.hid (HC1.out.below hx); have HX2 := Lib.hid (belowThen HX1.out (Nat.le_refl _) hx); have HN12 := Lib.hid (show g1 ≠ g2 from fun e => by have := HG1.out.lt; omega); have HNE := Lib.hid (show ¬ g1 = gc ∧ ¬ g2 = gc from ⟨by omega, by have := hx1.size; omega⟩); have HGE := Lib.hid (show w.heap.size ≤ g2 from Nat.le_trans HX1.out.size hg2); clear hb hx hg2 hg1 hx1) | (with_reducible refine wpList_loadL HL2.out rfl _ rfl rfl ?_))
 refine (gname_any base gc s w2 hl HC2.out).mono ?_
 rintro e w3 ⟨rfl, hc3, ho3⟩
 obtain ⟨n, s1, q1⟩ : ∃ n s1, sText 24 s = (n, s1) := ⟨_, _, rfl⟩
 have hl1 : stLen s1 ≤ 16777216 := by have := sText_len 24 s; rw [q1] at this; exact Nat.le_trans this hl
 rw [q1] at hc3 ⊢
 have HQ1 := Lib.hid q1
 have HC3 := Lib.hid hc3
 have HG3 := Lib.hid (HG2.out.only ho3 HNE.out.1)
 have HB3 := Lib.hid (HB2.out.only ho3 HNE.out.2)
 have HO3 := Lib.hid ((Only.of_below (S := fun k => k = gc) HX2.out).trans ho3 (fun i hi h => h))
 obtain ⟨wn, hrn, hbn, hon⟩ := Blk.run_one (P := Tryz.prog) (ty := 9) HB3.out 0 (by rw [riC_size]; decide) (.string ⟨n.toArray⟩) rfl rfl (by kernel_rfl) (riC (n, ⟨(z20, []), rfl⟩)) (by simp [riC, zR])
 have HRN := Lib.hid hrn
 have HCN := Lib.hid (HC3.out.other hon HB3.out (by decide) (by decide))
 have HGN := Lib.hid (HG3.out.only hon HN12.out)
 have HBN := Lib.hid hbn
 have HON := Lib.hid (HO3.out.trans (T := fun k => k = g2) hon (fun i hi h => by have := HGE.out; omega))
 clear q1 hc3 ho3 hrn hbn hon
 go_wp2_with (first | (refine wpList_store rfl rfl 9 _ _ rfl (.pointer (some ⟨g2, 0, none⟩)) (.string ⟨n.toArray⟩) rfl rfl HRN.out ?_))
 try simp only [Act.put, List.setIfInBounds_toArray, List.set_cons_succ, List.set_cons_zero]
 obtain ⟨w4, hw4⟩ : ∃ W, W = wn.drew := ⟨_, rfl⟩
 have hd : Below wn.heap.size wn w4 := by rw [hw4]; exact (Below.refl _ _).drew
 have HC4 := Lib.hid (HCN.out.below hd)
 have HG4 := Lib.hid (HGN.out.below hd)
 have HB4 := Lib.hid (HBN.out.below hd)
 have HO4 := Lib.hid (HON.out.trans (Only.of_below (S := fun k => k = gc) hd) (fun i hi h => h))
 refine wp_region_held_drew (S := fun W => Blk W g1 99 #[.pointer (some ⟨gc, 0, none⟩)]) (by kernel_rfl) (by rw [← hw4]; exact HG4.out) (fun hHeld => ?_)
 rw [← hw4] at hHeld ⊢
 clear hw4 hd
 refine held_take 0 (.pointer (some ⟨g2, 1, none⟩)) rfl (by kernel_rfl) (fun _ _ _ h => h) rfl (fun W _ => by kernel_rfl) (by assumption) ?_
 try simp only [Act.put, List.setIfInBounds_toArray, List.set_cons_succ, List.set_cons_zero]
 refine held_take 1 (.pointer (some ⟨g2, 1, none⟩)) rfl (by kernel_rfl) (fun _ _ _ h => h) rfl (fun W _ => by kernel_rfl) (by assumption) ?_
 try simp only [Act.put, List.setIfInBounds_toArray, List.set_cons_succ, List.set_cons_zero]
 refine held_take 2 (.slice (some ⟨g2, 1, none⟩) 20 20) rfl (by kernel_rfl) (fun _ _ _ h => h) rfl (fun W _ => by kernel_rfl) (by assumption) ?_
 try simp only [Act.put, List.setIfInBounds_toArray, List.set_cons_succ, List.set_cons_zero]
 refine held_take 3 (.pointer (some ⟨g1, 0, none⟩)) rfl (by kernel_rfl) (fun _ _ _ h => h) rfl (fun W _ => by kernel_rfl) (by assumption) ?_
 try simp only [Act.put, List.setIfInBounds_toArray, List.set_cons_succ, List.set_cons_zero]
 refine held_take 4 (.pointer (some ⟨gc, 0, none⟩)) rfl (by kernel_rfl) (fun _ _ _ h => h) rfl (fun W hS => exec_loadC rfl rfl (hS.one (ty := 96) 0 rfl Tryz.underlying96 rfl).now) (by assumption) ?_
 try simp only [Act.put, List.setIfInBounds_toArray, List.set_cons_succ, List.set_cons_zero]
 refine held_one 5 rfl (by kernel_rfl) ?_
 refine step_call rfl 81 _ _ rfl #[.pointer (some ⟨gc, 0, none⟩), .int .i64 ((20 : Nat) : Int)] (by simp only [List.map_toArray, List.map_cons, List.map_nil]; rfl) (fun W => HER.out _ W) ?_
 refine (sraw_any base gc 20 s1 _ hl1 (by omega) HC4.out).mono ?_
 rintro x w5 ⟨u, rfl, hu, hc, ho⟩
 have HU5 := Lib.hid hu.slice
 have HC5 := Lib.hid hc
 have HG5 := Lib.hid (HG4.out.only ho HNE.out.1)
 have HB5 := Lib.hid (HB4.out.only ho HNE.out.2)
 have HO5 := Lib.hid (HO4.out.trans ho (fun i hi h => h))
 clear hu hc ho
 refine ⟨_, rfl, ?_⟩
 refine ⟨HG5.out, ?_⟩
 try simp only [Act.put, List.setIfInBounds_toArray, List.set_cons_succ, List.set_cons_zero]
 refine held_one 6 rfl (by kernel_rfl) ?_
 obtain ⟨w6, hrun, hb6, ho6, hs6⟩ := run_copyAt (o := 1) (n := 20) (dc := 20) 3 HU5.out (rin_list HB5.out) (by simp [Lib.byteCells, z20_length])
 refine step_val rfl (w' := w6) (v := .int .i64 ((min (sRaw 20 s1).1.length 20 : Nat) : Int)) (exec_copyC rfl rfl rfl hrun) ?_
 have HB6 := Lib.hid (show Blk w6 g2 77 (riC (n, ⟨((sHash s1).1, []), sHash_length _⟩)) by have h := hb6; rw [rin_copied n s1] at h; exact h)
 have HG6 := Lib.hid (HG5.out.only ho6 HN12.out)
 have HC6 := Lib.hid (HC5.out.other ho6 HB5.out (by decide) (by decide))
 have HO6 := Lib.hid (HO5.out.trans (T := fun k => k = g2) ho6 (fun i hi h => by have := HGE.out; omega))
 clear hrun hb6 ho6 hs6
 refine ⟨HG6.out, ?_⟩
 try simp only [Act.put, List.setIfInBounds_toArray, List.set_cons_succ, List.set_cons_zero]
 refine held_end (by kernel_rfl) ?_
 obtain ⟨h1, s2, q2⟩ : ∃ h s2, sHash s1 = (h, s2) := ⟨_, _, rfl⟩
 have HQ2 := Lib.hid q2
 have hl2 : stLen s2 ≤ 16777216 := by have := sHash_len s1; rw [q2] at this; exact Nat.le_trans this hl1
 have HC6b := Lib.hid (show CuS base gc w6 s2 by have h := HC6.out; have e : (sRaw 20 s1).2 = s2 := (congrArg Prod.snd q2 : (sHash s1).2 = s2); rwa [e] at h)
 clear q2
 go_wp2_with (first | (with_reducible refine wpList_loadL (HG6.out.loads (P := Tryz.prog) gt_under rfl gt_info) rfl _ rfl rfl ?_))
 refine (gname_any base gc s2 w6 hl2 HC6b.out).mono ?_
 rintro e w7 ⟨rfl, hc7, ho7⟩
 obtain ⟨pn, s3, q3⟩ : ∃ p s3, sText 24 s2 = (p, s3) := ⟨_, _, rfl⟩
 rw [q3] at hc7 ⊢
 have HQ3 := Lib.hid q3
 have HC7 := Lib.hid hc7
 have HB7 := Lib.hid (HB6.out.only ho7 HNE.out.2)
 have HO7 := Lib.hid (HO6.out.trans ho7 (fun i hi h => h))
 obtain ⟨w8, hr8, hb8, ho8⟩ := Blk.run_one (P := Tryz.prog) (ty := 9) HB7.out 21 (by rw [riC_size]; decide) (.string ⟨pn.toArray⟩) rfl rfl (by kernel_rfl) (riC (n, ⟨((sHash s1).1, pn), sHash_length _⟩)) (riC_setName _ _ _ _ _)
 have HB8 := Lib.hid hb8
 have HC8 := Lib.hid (HC7.out.other ho8 HB7.out (by decide) (by decide))
 have HO8 := Lib.hid (HO7.out.trans (T := fun k => k = g2) ho8 (fun i hi h => by have := HGE.out; omega))
 have HR8 := Lib.hid hr8
 clear q3 hc7 ho7 hr8 hb8 ho8
 go_wp2_with (first | (refine wpList_store rfl rfl 9 _ _ rfl (.pointer (some ⟨g2, 21, none⟩)) (.string ⟨pn.toArray⟩) rfl rfl HR8.out ?_) | (with_reducible refine wpList_loadL (RinB.of_blk HB8.out).all rfl _ rfl rfl ?_) | ((with_reducible refine wpList_put rfl rfl 77 _ _ rfl g2 (riC (n, ⟨((sHash s1).1, pn), sHash_length _⟩)) (riC (n, ⟨((sHash s1).1, pn), sHash_length _⟩)) rfl rfl HB8.out (riC_info _) rfl (riC_one _) ?_); intro w9 hb9 hx9 hs9 hk9))
 have ho9 : Only (· = g2) w8 w9 := Only.of_eq hx9 hs9 hk9 rfl
 have HE := Lib.hid (show sIn s = ((n, ⟨((sHash s1).1, pn), sHash_length _⟩), s3) from sIn_eq HQ1.out (by rw [HQ2.out]; exact HQ3.out))
 refine Agg.post_row rfl rfl hb9 riC_under rfl (riC_info _) rfl ⟨by rw [HE.out], by rw [HE.out]; exact HC8.out.other ho9 HB8.out (by decide) (by decide), ?_⟩
 exact HO8.out.trans (T := fun k => k = g2) ho9 (fun i hi h => by have := HGE.out; omega)
set_option maxRecDepth 100000 in
set_option maxHeartbeats 8000000 in
theorem rget_any (v : Value) (b : List UInt8) (w : World) (hl : b.length ≤ 16777216) (hb : BytesAt w v b) :
  Calls Tryz.prog 12 #[v] w fun e w' => ∃ vi vr, e = .returned (.tuple #[.agg (rsC (getO b).1 vi vr), .int .i64 (getE b : Int)]) ∧ Agg.Own ERi w.heap.size w' vi (getO b).2.1 ∧ Agg.Own EB w.heap.size w' vr (getO b).2.2 ∧ Below w.heap.size w w' := by
 obtain ⟨nm, s1, q1⟩ : ∃ k s, gNm b = (k, s) := ⟨_, _, rfl⟩
 obtain ⟨n, s2, q2⟩ : ∃ k s, sNum 8 s1 = (k, s) := ⟨_, _, rfl⟩
 have h0 : stLen (some b) ≤ 16777216 := hl
 have h1 : stLen s1 ≤ 16777216 := by have := sText_len 24 (some b); rw [show sText 24 (some b) = (nm, s1) from q1] at this; exact Nat.le_trans this h0
 have h2 : stLen s2 ≤ 16777216 := by have := sNum_len 8 s1; rw [q2] at this; exact Nat.le_trans this h1
 have hn : n ≤ 8 := by have := sNum_le 8 s1; rw [q2] at this; exact this
 have HQ1 := Lib.hid q1
 have HQ2 := Lib.hid q2
 have HBY := Lib.hid hb
 have HEI := Lib.hid (enters_of Tryz.func43 (by kernel_rfl) rfl : ∀ args w, (callFunc 43 args).run Tryz.prog w = .ok (.enter 43 args) w)
 clear q1 q2 hb
 go_enter Tryz.func12, Tryz.ntmps12
 go_wp2_with (first | (with_reducible refine Agg.wpList_zero rfl 25 rfl (rsC [] (.slice none 0 0) (.slice none 0 0)) rsC_zero ?_; intro g2 w1 hb1 hx1 hg2; have hlt1 := hb1.lt; have HB1 := Lib.hid hb1; have HX1 := Lib.hid hx1; clear hb1 hx1))
 refine (over_any v b _ hl (HBY.out.below HX1.out)).mono ?_
 rintro x w2 ⟨gc, v2, rfl, hgc, hcu, hx2⟩
 have HC2 := Lib.hid (CuS.good hcu)
 have HB2 := Lib.hid (HB1.out.below hx2)
 have HX2 := Lib.hid (belowThen HX1.out (Nat.le_refl _) hx2)
 have hltc := hcu.blk.lt
 have hs2 := hx2.size
 have hs1 := HX1.out.size
 clear hcu hx2
 go_wp2_with (first | (with_reducible refine wpList_build1 99 0 _ rfl rfl (.pointer (some ⟨gc, 0, none⟩)) rfl (.agg #[.pointer (some ⟨gc, 0, none⟩)]) (gt_build gc) ?_))
 obtain ⟨g4, hg4⟩ : ∃ g, g = w2.heap.size := ⟨_, rfl⟩
 obtain ⟨w3, hw3⟩ : ∃ W, W = w2.alloc (.cells #[.pointer (some ⟨gc, 0, none⟩)] 99) := ⟨_, rfl⟩
 have hb3 : Blk w3 g4 99 #[.pointer (some ⟨gc, 0, none⟩)] := by rw [hw3, hg4]; exact Blk.new _ _ _
 have hx3 : Below w2.heap.size w2 w3 := by rw [hw3]; exact (Below.refl _ _).alloc (Nat.le_refl _) _
 rw [← hw3, ← hg4]
 have HG3 := Lib.hid hb3
 have HC3 := Lib.hid (HC2.out.below hx3)
 have HB3 := Lib.hid (HB2.out.below hx3)
 have HX3 := Lib.hid (belowThen HX2.out (Nat.le_refl _) hx3)
 have HNE := Lib.hid (show ¬ g4 = gc ∧ ¬ g2 = gc ∧ ¬ g4 = g2 from ⟨by omega, by omega, by omega⟩)
 have HGE := Lib.hid (show w.heap.size ≤ gc ∧ w.heap.size ≤ g2 from ⟨by omega, by omega⟩)
 clear hb3 hx3 hg4 hw3
 refine (gname_any w1.heap.size gc (some b) w3 h0 HC3.out).mono ?_
 rintro x w4 ⟨rfl, hc4, ho4⟩
 rw [show sText 24 (some b) = (nm, s1) from HQ1.out] at hc4 ⊢
 have HC4 := Lib.hid hc4
 have HG4 := Lib.hid (HG3.out.only ho4 HNE.out.1)
 have HB4 := Lib.hid (HB3.out.only ho4 HNE.out.2.1)
 have HX4 := Lib.hid (HX3.out.trans (ho4.below (B := w.heap.size) HX3.out.size (fun i hi => by subst hi; exact HGE.out.1)))
 obtain ⟨w5, hr5, hb5, ho5⟩ := Blk.run_one (P := Tryz.prog) (ty := 9) HB4.out 0 (rsC_lt _ _ _ _ (by decide)) (.string ⟨nm.toArray⟩) rfl rfl (by kernel_rfl) (rsC nm (.slice none 0 0) (.slice none 0 0)) rfl
 have HR5 := Lib.hid hr5
 have HB5 := Lib.hid hb5
 have HC5 := Lib.hid (HC4.out.other ho5 HB4.out (by decide) (by decide))
 have HG5 := Lib.hid (HG4.out.only ho5 HNE.out.2.2)
 have HX5 := Lib.hid (HX4.out.trans (ho5.below (B := w.heap.size) HX4.out.size (fun i hi => by subst hi; exact HGE.out.2)))
 have HL5 := Lib.hid (HG5.out.one (P := Tryz.prog) (ty := 96) 0 rfl Tryz.underlying96 rfl)
 clear hc4 ho4 hr5 hb5 ho5
 go_wp2_with (first | (refine wpList_store rfl rfl 9 _ _ rfl (.pointer (some ⟨g2, 0, none⟩)) (.string ⟨nm.toArray⟩) rfl rfl HR5.out ?_) | (with_reducible refine wpList_loadL HL5.out rfl _ rfl rfl ?_))
 refine (snum_any w1.heap.size gc 8 s1 w5 h1 (by omega) HC5.out).mono ?_
 rintro x w6 ⟨rfl, hc6, ho6⟩
 rw [HQ2.out] at hc6 ⊢
 have HC6 := Lib.hid hc6
 have HG6 := Lib.hid (HG5.out.only ho6 HNE.out.1)
 have HB6 := Lib.hid (HB5.out.only ho6 HNE.out.2.1)
 have HX6 := Lib.hid (HX5.out.trans (ho6.below (B := w.heap.size) HX5.out.size (fun i hi => by subst hi; exact HGE.out.1)))
 clear hc6 ho6
 go_wp2_with fail
 go_loopw [14] (fun i wr => ∃ (k : Nat) (pv : Value), k ≤ n ∧ i = .int .i64 (k : Int) ∧ Agg.Own ERi w.heap.size wr pv (sIns k s2).1 ∧ CuS w1.heap.size gc wr (sIns k s2).2 ∧ Blk wr g4 99 #[.pointer (some ⟨gc, 0, none⟩)] ∧ Blk wr g2 25 (rsC nm pv (.slice none 0 0)) ∧ Below w.heap.size w wr) (fun i _ => n - (intOf i).toNat)
 case atStart => exact ⟨0, _, by omega, rfl, Agg.Own.nil _ _ _, HC6.out, HG6.out, HB6.out, HX6.out⟩
 case round =>
  obtain ⟨wr1, rfl⟩ : ∃ y : World, y = wr := ⟨_, rfl⟩
  obtain ⟨k, pv, hk, rfl, ho, hc, hg, hb, hx⟩ := hrel
  obtain ⟨ql, s', hq⟩ : ∃ l s, sIns k s2 = (l, s) := ⟨_, _, rfl⟩
  have hlen := sIns_len k s2
  rw [hq] at ho hc hlen
  have hls : stLen s' ≤ 16777216 := Nat.le_trans hlen.1 h2
  have hql : ql.length = k := hlen.2
  have HQS := Lib.hid hq
  have HO := Lib.hid ho
  have HC := Lib.hid hc
  have HG := Lib.hid hg
  have HB := Lib.hid hb
  have HX := Lib.hid hx
  clear ho hc hg hb hx hlen hq
  by_cases hlt : k < n
  ·have hd1 : decide ((k : Int) < (n : Int)) = true := by simp; omega
   obtain ⟨x', s'', hx'⟩ : ∃ x s, sIn s' = (x, s) := ⟨_, _, rfl⟩
   have HQ := Lib.hid hx'
   have HSN := Lib.hid (show sIns (k + 1) s2 = (ql ++ [x'], s'') by simp only [sIns, HQS.out, HQ.out])
   have h63 : ql.length + [x'].length ≤ 1099511627776 / 8 := by rw [hql]; simp; omega
   have hdr : Below wr1.heap.size wr1 wr1.drew := (Below.refl _ _).drew
   have HOd := Lib.hid (HO.out.below hdr)
   have HCd := Lib.hid (HC.out.below hdr)
   have HGd := Lib.hid (HG.out.below hdr)
   have HBd := Lib.hid (HB.out.below hdr)
   have HXd := Lib.hid (belowThen HX.out (Nat.le_refl _) hdr)
   clear hx' hdr
   go_wp2_with fail
   refine wp_region_any (by kernel_rfl) ?_
   refine any_take 0 (.pointer (some ⟨g2, 1, none⟩)) rfl (by kernel_rfl) (fun _ _ _ h => h) rfl (fun W => by kernel_rfl) ?_
   try simp only [Act.put, List.setIfInBounds_toArray, List.set_cons_succ, List.set_cons_zero]
   refine any_ready [1, 2] (by kernel_rfl) (by simp) ?_
   refine any_cons rfl ?_ ?_
   ·refine step_load rfl 22 _ rfl _ pv rfl (RvB.of_blk HBd.out).inp.now ?_
    have HC_1 := HCd
    have HG_1 := HGd
    have HB_1 := HBd
    have HO_1 := HOd
    have HX_1 := HXd
    try simp only [Act.put, List.setIfInBounds_toArray, List.set_cons_succ, List.set_cons_zero]
    refine any_one 2 rfl (by kernel_rfl) ?_
    refine step_load rfl 99 _ rfl _ (.agg #[.pointer (some ⟨gc, 0, none⟩)]) rfl (HG_1.out.loads (P := Tryz.prog) gt_under rfl gt_info).now ?_
    have Zs := HC_1
    have Z0 := HG_1
    have Zy := HB_1
    have Zx := HO_1
    have Zt := HX_1
    try simp only [Act.put, List.setIfInBounds_toArray, List.set_cons_succ, List.set_cons_zero]
    refine any_one 3 rfl (by kernel_rfl) ?_
    refine step_call rfl 43 _ _ rfl #[.agg #[.pointer (some ⟨gc, 0, none⟩)]] (by simp only [List.map_toArray, List.map_cons, List.map_nil]; rfl) (fun W => HEI.out _ W) ?_
    refine (ginput_any w1.heap.size gc s' _ hls Zs.out).mono ?_
    rintro x Zba ⟨rfl, hc, ho⟩
    rw [HQ.out] at hc ⊢
    have Zp := Lib.hid hc
    have Zn := Lib.hid (Z0.out.only ho HNE.out.1)
    have Zm := Lib.hid (Zy.out.only ho HNE.out.2.1)
    have Zo := Lib.hid (own_only Zx.out Zs.out ho)
    have Zq := Lib.hid (Zt.out.trans (ho.below (B := w.heap.size) Zt.out.size (fun i hi => by subst hi; exact HGE.out.1)))
    clear hc ho
    refine ⟨_, rfl, ?_⟩
    try simp only [Act.put, List.setIfInBounds_toArray, List.set_cons_succ, List.set_cons_zero]
    refine any_one 4 rfl (by kernel_rfl) ?_
    refine step_slice1 (E := ERi) rfl _ rfl x' rfl ?_
    intro x4 Zu hx4 hb4
    have Zi := Lib.hid (Zp.out.below hb4)
    have Zj := Lib.hid (Zn.out.below hb4)
    have Zk := Lib.hid (Zm.out.below hb4)
    have Zh := Lib.hid (Zo.out.below hb4)
    have Zb := Lib.hid (belowThen Zq.out (Nat.le_refl _) hb4)
    have Zg := Lib.hid hx4.slice
    clear hx4 hb4
    try simp only [Act.put, List.setIfInBounds_toArray, List.set_cons_succ, List.set_cons_zero]
    refine any_one 5 rfl (by kernel_rfl) ?_
    refine Agg.step_appendS (E := ERi) (base := w.heap.size) rfl _ _ rfl x4 rfl rfl [x'] Zh.out Zg.out h63 (by decide) Zb.out.size ?_
    intro v5 Zr ho5 hp5
    have Zf := Lib.hid (Zi.out.pushed hp5 (by decide) (by decide))
    have Ze := Lib.hid (Zj.out.pushedB hp5 (by decide))
    have Za := Lib.hid (Zk.out.pushedB hp5 (by decide))
    have Zd := Lib.hid ho5
    have Zc := Lib.hid (Zb.out.trans (hp5.below w.heap.size (Nat.le_refl _) Zb.out.size))
    obtain ⟨p5, c5, hf5⟩ := ho5.slice.form
    have HF5 := Lib.hid hf5
    clear ho5 hp5 hf5
    try simp only [Act.put, List.setIfInBounds_toArray, List.set_cons_succ, List.set_cons_zero]
    refine any_take 6 (.pointer (some ⟨g2, 1, none⟩)) rfl (by kernel_rfl) (fun _ _ _ h => h) rfl (fun W => by kernel_rfl) ?_
    try simp only [Act.put, List.setIfInBounds_toArray, List.set_cons_succ, List.set_cons_zero]
    refine any_one 7 rfl (by kernel_rfl) ?_
    obtain ⟨w7, hrun, hb7, ho7⟩ := Blk.run_one (P := Tryz.prog) (ty := 22) Za.out 1 (rsC_lt _ _ _ _ (by decide)) v5 (by rw [HF5.out]; rfl) (by rw [HF5.out]; rfl) (by kernel_rfl) (rsC nm v5 (.slice none 0 0)) rfl
    refine Agg.step_store rfl rfl 22 _ _ rfl (.pointer (some ⟨g2, 1, none⟩)) v5 rfl rfl hrun ?_
    have HC7 := Lib.hid (Zf.out.other ho7 Za.out (by decide) (by decide))
    have HG7 := Lib.hid (Ze.out.only ho7 HNE.out.2.2)
    have HB7 := Lib.hid hb7
    have HO7 := Lib.hid (Zd.out.onlyB ho7 Za.out (by decide))
    have HX7 := Lib.hid (Zc.out.trans (ho7.below (B := w.heap.size) Zc.out.size (fun i hi => by subst hi; exact HGE.out.2)))
    clear hrun hb7 ho7
    try simp only [Act.put, List.setIfInBounds_toArray, List.set_cons_succ, List.set_cons_zero]
    refine any_end (by kernel_rfl) ?_
    go_wp2_with fail
    go_roundw
    case rel => exact ⟨k + 1, v5, by omega, by go_num, by rw [HSN.out]; exact HO7.out, by rw [HSN.out]; exact HC7.out, HG7.out, HB7.out, HX7.out⟩
    case measure => simp [intOf]; omega
   refine any_cons rfl ?_ ?_
   ·refine step_load rfl 99 _ rfl _ (.agg #[.pointer (some ⟨gc, 0, none⟩)]) rfl (HGd.out.loads (P := Tryz.prog) gt_under rfl gt_info).now ?_
    have HC_2 := HCd
    have HG_2 := HGd
    have HB_2 := HBd
    have HO_2 := HOd
    have HX_2 := HXd
    try simp only [Act.put, List.setIfInBounds_toArray, List.set_cons_succ, List.set_cons_zero]
    refine any_ready [1, 3] (by kernel_rfl) (by simp) ?_
    refine any_cons rfl ?_ ?_
    ·refine step_load rfl 22 _ rfl _ pv rfl (RvB.of_blk HB_2.out).inp.now ?_
     have Zs := HC_2
     have Z0 := HG_2
     have Zy := HB_2
     have Zx := HO_2
     have Zt := HX_2
     try simp only [Act.put, List.setIfInBounds_toArray, List.set_cons_succ, List.set_cons_zero]
     refine any_one 3 rfl (by kernel_rfl) ?_
     refine step_call rfl 43 _ _ rfl #[.agg #[.pointer (some ⟨gc, 0, none⟩)]] (by simp only [List.map_toArray, List.map_cons, List.map_nil]; rfl) (fun W => HEI.out _ W) ?_
     refine (ginput_any w1.heap.size gc s' _ hls Zs.out).mono ?_
     rintro x Zba ⟨rfl, hc, ho⟩
     rw [HQ.out] at hc ⊢
     have Zp := Lib.hid hc
     have Zn := Lib.hid (Z0.out.only ho HNE.out.1)
     have Zm := Lib.hid (Zy.out.only ho HNE.out.2.1)
     have Zo := Lib.hid (own_only Zx.out Zs.out ho)
     have Zq := Lib.hid (Zt.out.trans (ho.below (B := w.heap.size) Zt.out.size (fun i hi => by subst hi; exact HGE.out.1)))
     clear hc ho
     refine ⟨_, rfl, ?_⟩
     try simp only [Act.put, List.setIfInBounds_toArray, List.set_cons_succ, List.set_cons_zero]
     refine any_one 4 rfl (by kernel_rfl) ?_
     refine step_slice1 (E := ERi) rfl _ rfl x' rfl ?_
     intro x4 Zu hx4 hb4
     have Zi := Lib.hid (Zp.out.below hb4)
     have Zj := Lib.hid (Zn.out.below hb4)
     have Zk := Lib.hid (Zm.out.below hb4)
     have Zh := Lib.hid (Zo.out.below hb4)
     have Zb := Lib.hid (belowThen Zq.out (Nat.le_refl _) hb4)
     have Zg := Lib.hid hx4.slice
     clear hx4 hb4
     try simp only [Act.put, List.setIfInBounds_toArray, List.set_cons_succ, List.set_cons_zero]
     refine any_one 5 rfl (by kernel_rfl) ?_
     refine Agg.step_appendS (E := ERi) (base := w.heap.size) rfl _ _ rfl x4 rfl rfl [x'] Zh.out Zg.out h63 (by decide) Zb.out.size ?_
     intro v5 Zr ho5 hp5
     have Zf := Lib.hid (Zi.out.pushed hp5 (by decide) (by decide))
     have Ze := Lib.hid (Zj.out.pushedB hp5 (by decide))
     have Za := Lib.hid (Zk.out.pushedB hp5 (by decide))
     have Zd := Lib.hid ho5
     have Zc := Lib.hid (Zb.out.trans (hp5.below w.heap.size (Nat.le_refl _) Zb.out.size))
     obtain ⟨p5, c5, hf5⟩ := ho5.slice.form
     have HF5 := Lib.hid hf5
     clear ho5 hp5 hf5
     try simp only [Act.put, List.setIfInBounds_toArray, List.set_cons_succ, List.set_cons_zero]
     refine any_take 6 (.pointer (some ⟨g2, 1, none⟩)) rfl (by kernel_rfl) (fun _ _ _ h => h) rfl (fun W => by kernel_rfl) ?_
     try simp only [Act.put, List.setIfInBounds_toArray, List.set_cons_succ, List.set_cons_zero]
     refine any_one 7 rfl (by kernel_rfl) ?_
     obtain ⟨w7, hrun, hb7, ho7⟩ := Blk.run_one (P := Tryz.prog) (ty := 22) Za.out 1 (rsC_lt _ _ _ _ (by decide)) v5 (by rw [HF5.out]; rfl) (by rw [HF5.out]; rfl) (by kernel_rfl) (rsC nm v5 (.slice none 0 0)) rfl
     refine Agg.step_store rfl rfl 22 _ _ rfl (.pointer (some ⟨g2, 1, none⟩)) v5 rfl rfl hrun ?_
     have HC7 := Lib.hid (Zf.out.other ho7 Za.out (by decide) (by decide))
     have HG7 := Lib.hid (Ze.out.only ho7 HNE.out.2.2)
     have HB7 := Lib.hid hb7
     have HO7 := Lib.hid (Zd.out.onlyB ho7 Za.out (by decide))
     have HX7 := Lib.hid (Zc.out.trans (ho7.below (B := w.heap.size) Zc.out.size (fun i hi => by subst hi; exact HGE.out.2)))
     clear hrun hb7 ho7
     try simp only [Act.put, List.setIfInBounds_toArray, List.set_cons_succ, List.set_cons_zero]
     refine any_end (by kernel_rfl) ?_
     go_wp2_with fail
     go_roundw
     case rel => exact ⟨k + 1, v5, by omega, by go_num, by rw [HSN.out]; exact HO7.out, by rw [HSN.out]; exact HC7.out, HG7.out, HB7.out, HX7.out⟩
     case measure => simp [intOf]; omega
    refine any_cons rfl ?_ ?_
    ·refine step_call rfl 43 _ _ rfl #[.agg #[.pointer (some ⟨gc, 0, none⟩)]] (by simp only [List.map_toArray, List.map_cons, List.map_nil]; rfl) (fun W => HEI.out _ W) ?_
     refine (ginput_any w1.heap.size gc s' _ hls HC_2.out).mono ?_
     rintro x w_2_3 ⟨rfl, hc, ho⟩
     rw [HQ.out] at hc ⊢
     have Z3 := Lib.hid hc
     have Z1 := Lib.hid (HG_2.out.only ho HNE.out.1)
     have Zv := Lib.hid (HB_2.out.only ho HNE.out.2.1)
     have Z4 := Lib.hid (own_only HO_2.out HC_2.out ho)
     have Z2 := Lib.hid (HX_2.out.trans (ho.below (B := w.heap.size) HX_2.out.size (fun i hi => by subst hi; exact HGE.out.1)))
     clear hc ho
     refine ⟨_, rfl, ?_⟩
     try simp only [Act.put, List.setIfInBounds_toArray, List.set_cons_succ, List.set_cons_zero]
     refine any_ready [1, 4] (by kernel_rfl) (by simp) ?_
     refine any_cons rfl ?_ ?_
     ·refine step_load rfl 22 _ rfl _ pv rfl (RvB.of_blk Zv.out).inp.now ?_
      have Zp := Z3
      have Zn := Z1
      have Zm := Zv
      have Zo := Z4
      have Zq := Z2
      try simp only [Act.put, List.setIfInBounds_toArray, List.set_cons_succ, List.set_cons_zero]
      refine any_one 4 rfl (by kernel_rfl) ?_
      refine step_slice1 (E := ERi) rfl _ rfl x' rfl ?_
      intro x4 Zu hx4 hb4
      have Zi := Lib.hid (Zp.out.below hb4)
      have Zj := Lib.hid (Zn.out.below hb4)
      have Zk := Lib.hid (Zm.out.below hb4)
      have Zh := Lib.hid (Zo.out.below hb4)
      have Zb := Lib.hid (belowThen Zq.out (Nat.le_refl _) hb4)
      have Zg := Lib.hid hx4.slice
      clear hx4 hb4
      try simp only [Act.put, List.setIfInBounds_toArray, List.set_cons_succ, List.set_cons_zero]
      refine any_one 5 rfl (by kernel_rfl) ?_
      refine Agg.step_appendS (E := ERi) (base := w.heap.size) rfl _ _ rfl x4 rfl rfl [x'] Zh.out Zg.out h63 (by decide) Zb.out.size ?_
      intro v5 Zr ho5 hp5
      have Zf := Lib.hid (Zi.out.pushed hp5 (by decide) (by decide))
      have Ze := Lib.hid (Zj.out.pushedB hp5 (by decide))
      have Za := Lib.hid (Zk.out.pushedB hp5 (by decide))
      have Zd := Lib.hid ho5
      have Zc := Lib.hid (Zb.out.trans (hp5.below w.heap.size (Nat.le_refl _) Zb.out.size))
      obtain ⟨p5, c5, hf5⟩ := ho5.slice.form
      have HF5 := Lib.hid hf5
      clear ho5 hp5 hf5
      try simp only [Act.put, List.setIfInBounds_toArray, List.set_cons_succ, List.set_cons_zero]
      refine any_take 6 (.pointer (some ⟨g2, 1, none⟩)) rfl (by kernel_rfl) (fun _ _ _ h => h) rfl (fun W => by kernel_rfl) ?_
      try simp only [Act.put, List.setIfInBounds_toArray, List.set_cons_succ, List.set_cons_zero]
      refine any_one 7 rfl (by kernel_rfl) ?_
      obtain ⟨w7, hrun, hb7, ho7⟩ := Blk.run_one (P := Tryz.prog) (ty := 22) Za.out 1 (rsC_lt _ _ _ _ (by decide)) v5 (by rw [HF5.out]; rfl) (by rw [HF5.out]; rfl) (by kernel_rfl) (rsC nm v5 (.slice none 0 0)) rfl
      refine Agg.step_store rfl rfl 22 _ _ rfl (.pointer (some ⟨g2, 1, none⟩)) v5 rfl rfl hrun ?_
      have HC7 := Lib.hid (Zf.out.other ho7 Za.out (by decide) (by decide))
      have HG7 := Lib.hid (Ze.out.only ho7 HNE.out.2.2)
      have HB7 := Lib.hid hb7
      have HO7 := Lib.hid (Zd.out.onlyB ho7 Za.out (by decide))
      have HX7 := Lib.hid (Zc.out.trans (ho7.below (B := w.heap.size) Zc.out.size (fun i hi => by subst hi; exact HGE.out.2)))
      clear hrun hb7 ho7
      try simp only [Act.put, List.setIfInBounds_toArray, List.set_cons_succ, List.set_cons_zero]
      refine any_end (by kernel_rfl) ?_
      go_wp2_with fail
      go_roundw
      case rel => exact ⟨k + 1, v5, by omega, by go_num, by rw [HSN.out]; exact HO7.out, by rw [HSN.out]; exact HC7.out, HG7.out, HB7.out, HX7.out⟩
      case measure => simp [intOf]; omega
     refine any_cons rfl ?_ ?_
     ·refine step_slice1 (E := ERi) rfl _ rfl x' rfl ?_
      intro x4 w_2_3_4 hx4 hb4
      have Z9 := Lib.hid (Z3.out.below hb4)
      have Z6 := Lib.hid (Z1.out.below hb4)
      have Zz := Lib.hid (Zv.out.below hb4)
      have Z7 := Lib.hid (Z4.out.below hb4)
      have Z5 := Lib.hid (belowThen Z2.out (Nat.le_refl _) hb4)
      have Z8 := Lib.hid hx4.slice
      clear hx4 hb4
      try simp only [Act.put, List.setIfInBounds_toArray, List.set_cons_succ, List.set_cons_zero]
      refine any_one 1 rfl (by kernel_rfl) ?_
      refine step_load rfl 22 _ rfl _ pv rfl (RvB.of_blk Zz.out).inp.now ?_
      have Zi := Z9
      have Zj := Z6
      have Zk := Zz
      have Zh := Z7
      have Zb := Z5
      have Zg := Z8
      try simp only [Act.put, List.setIfInBounds_toArray, List.set_cons_succ, List.set_cons_zero]
      refine any_one 5 rfl (by kernel_rfl) ?_
      refine Agg.step_appendS (E := ERi) (base := w.heap.size) rfl _ _ rfl x4 rfl rfl [x'] Zh.out Zg.out h63 (by decide) Zb.out.size ?_
      intro v5 Zr ho5 hp5
      have Zf := Lib.hid (Zi.out.pushed hp5 (by decide) (by decide))
      have Ze := Lib.hid (Zj.out.pushedB hp5 (by decide))
      have Za := Lib.hid (Zk.out.pushedB hp5 (by decide))
      have Zd := Lib.hid ho5
      have Zc := Lib.hid (Zb.out.trans (hp5.below w.heap.size (Nat.le_refl _) Zb.out.size))
      obtain ⟨p5, c5, hf5⟩ := ho5.slice.form
      have HF5 := Lib.hid hf5
      clear ho5 hp5 hf5
      try simp only [Act.put, List.setIfInBounds_toArray, List.set_cons_succ, List.set_cons_zero]
      refine any_take 6 (.pointer (some ⟨g2, 1, none⟩)) rfl (by kernel_rfl) (fun _ _ _ h => h) rfl (fun W => by kernel_rfl) ?_
      try simp only [Act.put, List.setIfInBounds_toArray, List.set_cons_succ, List.set_cons_zero]
      refine any_one 7 rfl (by kernel_rfl) ?_
      obtain ⟨w7, hrun, hb7, ho7⟩ := Blk.run_one (P := Tryz.prog) (ty := 22) Za.out 1 (rsC_lt _ _ _ _ (by decide)) v5 (by rw [HF5.out]; rfl) (by rw [HF5.out]; rfl) (by kernel_rfl) (rsC nm v5 (.slice none 0 0)) rfl
      refine Agg.step_store rfl rfl 22 _ _ rfl (.pointer (some ⟨g2, 1, none⟩)) v5 rfl rfl hrun ?_
      have HC7 := Lib.hid (Zf.out.other ho7 Za.out (by decide) (by decide))
      have HG7 := Lib.hid (Ze.out.only ho7 HNE.out.2.2)
      have HB7 := Lib.hid hb7
      have HO7 := Lib.hid (Zd.out.onlyB ho7 Za.out (by decide))
      have HX7 := Lib.hid (Zc.out.trans (ho7.below (B := w.heap.size) Zc.out.size (fun i hi => by subst hi; exact HGE.out.2)))
      clear hrun hb7 ho7
      try simp only [Act.put, List.setIfInBounds_toArray, List.set_cons_succ, List.set_cons_zero]
      refine any_end (by kernel_rfl) ?_
      go_wp2_with fail
      go_roundw
      case rel => exact ⟨k + 1, v5, by omega, by go_num, by rw [HSN.out]; exact HO7.out, by rw [HSN.out]; exact HC7.out, HG7.out, HB7.out, HX7.out⟩
      case measure => simp [intOf]; omega
     exact AllReady.nil
    exact AllReady.nil
   exact AllReady.nil
  ·obtain rfl : k = n := by omega
   have HL7 := Lib.hid (HG.out.one (P := Tryz.prog) (ty := 96) 0 rfl Tryz.underlying96 rfl)
   have HGI := Lib.hid (show gIns b = (ql, s') by unfold gIns gN; rw [HQ1.out, HQ2.out]; exact HQS.out)
   go_wp2_with (first | (with_reducible refine wpList_loadL HL7.out rfl _ rfl rfl ?_))
   refine (stext_any w1.heap.size gc 1000 s' wr1 hls HC.out).mono ?_
   rintro x w8 ⟨u, rfl, hu, hc8, ho8⟩
   obtain ⟨rc, s3, q3⟩ : ∃ k s, sText 1000 s' = (k, s) := ⟨_, _, rfl⟩
   rw [q3] at hu hc8
   have HRC := Lib.hid (show gRc b = (rc, s3) by unfold gRc; rw [HGI.out]; exact q3)
   have HRV := Lib.hid (show gRv b = (nm, ql, rc) by unfold gRv; rw [HQ1.out, HGI.out, HRC.out])
   obtain ⟨pu, cu, hfu⟩ := hu.slice.form
   have HFU := Lib.hid hfu
   have HU8 := Lib.hid (hu.lower HX.out.size)
   have HC8 := Lib.hid hc8
   have HG8 := Lib.hid (HG.out.only ho8 HNE.out.1)
   have HB8 := Lib.hid (HB.out.only ho8 HNE.out.2.1)
   have HO8 := Lib.hid (own_only HO.out HC.out ho8)
   have HX8 := Lib.hid (HX.out.trans (ho8.below (B := w.heap.size) HX.out.size (fun i hi => by subst hi; exact HGE.out.1)))
   obtain ⟨w9, hr9, hb9, ho9⟩ := Blk.run_one (P := Tryz.prog) (ty := 23) HB8.out 2 (rsC_lt _ _ _ _ (by decide)) u (by rw [HFU.out]; rfl) (by rw [HFU.out]; rfl) (by kernel_rfl) (rsC nm pv u) rfl
   have HR9 := Lib.hid hr9
   have HB9 := Lib.hid hb9
   have HC9 := Lib.hid (HC8.out.other ho9 HB8.out (by decide) (by decide))
   have HG9 := Lib.hid (HG8.out.only ho9 HNE.out.2.2)
   have HO9 := Lib.hid (HO8.out.onlyB ho9 HB8.out (by decide))
   have HU9 := Lib.hid (HU8.out.onlyB ho9 HB8.out (by decide))
   have HX9 := Lib.hid (HX8.out.trans (ho9.below (B := w.heap.size) HX8.out.size (fun i hi => by subst hi; exact HGE.out.2)))
   have HL9 := Lib.hid (HG9.out.one (P := Tryz.prog) (ty := 96) 0 rfl Tryz.underlying96 rfl)
   clear q3 hu hfu hc8 ho8 hr9 hb9 ho9
   go_wp2_with (first | (refine wpList_store rfl rfl 23 _ _ rfl (.pointer (some ⟨g2, 2, none⟩)) u rfl rfl HR9.out ?_) | (with_reducible refine wpList_loadL HL9.out rfl _ rfl rfl ?_))
   refine (send_any w1.heap.size gc s3 w9 HC9.out).mono ?_
   rintro x wa ⟨⟨c, rfl, hc⟩, rfl⟩
   have HA := Lib.hid (RvB.of_blk HB9.out)
   by_cases hc0 : c = 0
   ·subst hc0
    obtain rfl := hc.1 rfl
    clear hc
    go_wp2_with (first | (with_reducible refine wpList_loadL HA.out.all rfl _ rfl rfl ?_))
    refine (rsCan_any _ (nm, ql, rc) (by rw [show ((nm, ql, rc) : Rv).2.1 = ql from rfl, hql]; omega) wa ⟨pv, u, rfl, HO9.out.slice, HU9.out.slice⟩).mono ?_
    rintro e wb ⟨rfl, hxb⟩
    have HBB := Lib.hid (HB9.out.below hxb)
    have HOB := Lib.hid (HO9.out.below hxb)
    have HUB := Lib.hid (HU9.out.below hxb)
    have HXB := Lib.hid (belowThen HX9.out (Nat.le_refl _) hxb)
    have HLB := Lib.hid (RvB.of_blk HBB.out)
    clear hxb
    cases hcan : canRv (nm, ql, rc) with
    | true =>
     have HG0 := Lib.hid (show getRv b = some (nm, ql, rc) by unfold getRv; rw [HRC.out, HRV.out, if_pos ⟨rfl, hcan⟩])
     have HGO := Lib.hid (getO_some HG0.out)
     clear hcan
     go_wp2_with (first | (with_reducible refine wpList_loadL HLB.out.all rfl _ rfl rfl ?_) | ((with_reducible refine wpList_put rfl rfl 25 _ _ rfl g2 (rsC nm pv u) (rsC nm pv u) rfl rfl HBB.out (rsC_info _ _ _) rfl (rsC_one _ HOB.out.slice HUB.out.slice) ?_); intro we hbe hxe hse hke))
     have hoe : Only (· = g2) wb we := Only.of_eq hxe hse hke rfl
     exact post_row_tmp rfl rfl rfl hbe rv_under rfl (by kernel_rfl) rfl ⟨pv, u, by rw [HGO.out.1, HGO.out.2]; rfl, by rw [HGO.out.1]; exact HOB.out.onlyB hoe HBB.out (by decide), by rw [HGO.out.1]; exact HUB.out.onlyB hoe HBB.out (by decide), HXB.out.trans (hxe.mono HGE.out.2)⟩
    | false =>
     have HGO := Lib.hid (getO_none (show getRv b = none by unfold getRv; rw [HRC.out, HRV.out, if_neg (by rw [hcan]; simp)]))
     clear hcan
     go_wp2_with (first | (with_reducible refine wpList_build0 25 rfl (by kernel_rfl) (.agg (rsC [] (.slice none 0 0) (.slice none 0 0))) (fun W => by kernel_rfl) ?_) | ((with_reducible refine wpList_put rfl rfl 25 _ _ rfl g2 (rsC [] (.slice none 0 0) (.slice none 0 0)) (rsC nm pv u) rfl rfl HBB.out (rsC_info _ _ _) (rsC_ss _ _ _ _ _ _) rsC_z ?_); intro we hbe hxe hse hke))
     exact post_row_tmp rfl rfl rfl hbe rv_under rfl (by kernel_rfl) rfl ⟨_, _, by rw [HGO.out.1, HGO.out.2]; rfl, by rw [HGO.out.1]; exact Agg.Own.nil _ _ _, by rw [HGO.out.1]; exact Agg.Own.nil _ _ _, HXB.out.trans (hxe.mono HGE.out.2)⟩
   ·have hs : ¬ s3 = some [] := fun e => hc0 (hc.2 e)
    have HGO := Lib.hid (getO_none (show getRv b = none by unfold getRv; rw [HRC.out, if_neg (by simp [hs])]))
    have hci : ¬ ((c : Int) = 0) := by omega
    clear hc hs
    go_wp2_with (first | (with_reducible refine wpList_build0 25 rfl (by kernel_rfl) (.agg (rsC [] (.slice none 0 0) (.slice none 0 0))) (fun W => by kernel_rfl) ?_) | ((with_reducible refine wpList_put rfl rfl 25 _ _ rfl g2 (rsC [] (.slice none 0 0) (.slice none 0 0)) (rsC nm pv u) rfl rfl HB9.out (rsC_info _ _ _) (rsC_ss _ _ _ _ _ _) rsC_z ?_); intro we hbe hxe hse hke))
    exact post_row_tmp rfl rfl rfl hbe rv_under rfl (by kernel_rfl) rfl ⟨_, _, by rw [HGO.out.1, HGO.out.2]; rfl, by rw [HGO.out.1]; exact Agg.Own.nil _ _ _, by rw [HGO.out.1]; exact Agg.Own.nil _ _ _, HX9.out.trans (hxe.mono HGE.out.2)⟩
end Go.Proofs.YtdebbmembkbniaaGreat
