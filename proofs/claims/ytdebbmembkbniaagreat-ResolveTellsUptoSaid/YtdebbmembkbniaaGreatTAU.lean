/- (of general use) The document's cursor, where other blocks are written. (Several texts in one.) -/
import Derived.Test.YtdebbmembkbniaaGreatTAT
import Derived.Test.YtdebbmembkbniaaGreatTAD
import Derived.Test.YtdebbmembkbniaaGreatTAC
/-! spenceref01.Cursor as a state: contracts without cases; Text. -/
namespace Go.Proofs.YtdebbmembkbniaaGreat
open Go.RowKit Pl Go.Agg
set_option maxRecDepth 100000 in
set_option maxHeartbeats 1000000 in
theorem rcnum_any (base g most : Nat) (s : Option (List UInt8)) (w : World) (hl : stLen s ≤ 16777216) (hmo : most ≤ 1099511627776) (h : CrS base g w s) :
  Calls Tryz.prog 47 #[.pointer (some ⟨g, 0, none⟩), .int .i64 (most : Int)] w fun x w' => x = .returned (.int .i64 ((sNum most s).1 : Int)) ∧ CrS base g w' (sNum most s).2 ∧ Only (· = g) w w' := by
 obtain ⟨v, r, e, hv, hbad, rfl⟩ := h
 by_cases h0 : e = 0
 ·subst h0
  refine (rcnum_good base g most v r w (by simpa [stLen] using hl) hmo hv).mono ?_
  rintro x w' ⟨hc, ho⟩
  rcases hc with ⟨n, y, v', hg, rfl, hcu⟩ | ⟨hg, rfl, hcu⟩
  ·simp only [if_true, sNum, hg]
   exact ⟨trivial, CrS.good hcu, ho⟩
  ·simp only [if_true, sNum, hg]
   exact ⟨rfl, CrS.bad hcu, ho⟩
 ·obtain ⟨rfl, rfl⟩ := hbad h0
  simp only [if_neg h0, sNum]
  have hq : ((e : Int) == 0) = false := by simp [h0]
  have H0 := Lib.hid h0
  have HM := Lib.hid hv
  have hlr := fun W => bytes_len hv.rest.slice W
  clear h0 hv hbad hl
  go_enter Tryz.func47, Tryz.ntmps47
  go_wp2_with fail
  go_loopw [5, 6, 7] (fun nn u i wr => i = .int .i64 0 ∧ wr = w) (fun _ _ i _ => 0)
  case atStart => exact ⟨rfl, rfl⟩
  case round =>
   obtain ⟨rfl, rfl⟩ := hrel
   go_wp2_with (first | (with_reducible refine wpList_loadL HM.out.load rfl _ rfl rfl ?_) | (with_reducible refine wpList_loadL HM.out.err rfl _ rfl rfl ?_))
   refine (rfail_any base g (.slice none 0 0) [] e 4 _ HM.out).mono ?_
   rintro x w9 ⟨⟨rr, rfl⟩, hcu, hon⟩
   rw [if_neg H0.out] at hcu
   have HCU := Lib.hid hcu
   have HON := Lib.hid hon
   clear hcu hon
   go_wp2_with fail
   go_ret
   exact ⟨rfl, CrS.bad ⟨e, H0.out, HCU.out⟩, HON.out⟩
set_option maxRecDepth 100000 in
set_option maxHeartbeats 1000000 in
theorem rcraw_any (base g many : Nat) (s : Option (List UInt8)) (w : World) (hl : stLen s ≤ 16777216) (hmo : many ≤ 1099511627776) (h : CrS base g w s) :
  Calls Tryz.prog 48 #[.pointer (some ⟨g, 0, none⟩), .int .i64 (many : Int)] w fun x w' => ∃ u, x = .returned u ∧ Own EB w.heap.size w' u (sRaw many s).1 ∧ CrS base g w' (sRaw many s).2 ∧ Only (· = g) w w' := by
 obtain ⟨v, r, e, hv, hbad, rfl⟩ := h
 by_cases h0 : e = 0
 ·subst h0
  by_cases hle : many ≤ r.length
  ·refine (rcraw_good base g many v r w (by simpa [stLen] using hl) hle hv).mono ?_
   rintro x w' ⟨u, v', rfl, hu, hcu, ho⟩
   simp only [if_true, sRaw, if_pos hle]
   exact ⟨u, rfl, hu, CrS.good hcu, ho⟩
  ·simp only [if_true, sRaw, if_neg hle]
   have hI : (r.length : Int) < (many : Int) := by omega
   have hI0 : ¬ (many : Int) < 0 := by omega
   have HM := Lib.hid hv
   have hlr := fun W => bytes_len hv.rest.slice W
   clear hv hbad hl hle
   go_enter Tryz.func48, Tryz.ntmps48
   go_wp2_with (first | (with_reducible refine wpList_loadL HM.out.load rfl _ rfl rfl ?_) | (with_reducible refine wpList_loadL HM.out.err rfl _ rfl rfl ?_))
   refine (rfail_any base g v r 0 4 _ HM.out).mono ?_
   rintro x w9 ⟨⟨rr, rfl⟩, hcu, hon⟩
   have HCU := Lib.hid hcu
   have HON := Lib.hid hon
   clear hcu hon
   go_wp2_with fail
   go_ret
   exact ⟨_, rfl, Own.nil _ _ _, CrS.bad ⟨4, by omega, HCU.out⟩, HON.out⟩
 ·obtain ⟨rfl, rfl⟩ := hbad h0
  simp only [if_neg h0, sRaw]
  have hq : ((e : Int) != 0) = true := by simp [h0]
  have H0 := Lib.hid h0
  have HM := Lib.hid hv
  clear h0 hv hbad hl
  go_enter Tryz.func48, Tryz.ntmps48
  go_wp2_with (first | (with_reducible refine wpList_loadL HM.out.load rfl _ rfl rfl ?_) | (with_reducible refine wpList_loadL HM.out.err rfl _ rfl rfl ?_))
  refine (rfail_any base g (.slice none 0 0) [] e 4 _ HM.out).mono ?_
  rintro x w9 ⟨⟨rr, rfl⟩, hcu, hon⟩
  rw [if_neg H0.out] at hcu
  have HCU := Lib.hid hcu
  have HON := Lib.hid hon
  clear hcu hon
  go_wp2_with fail
  go_ret
  exact ⟨_, rfl, Own.nil _ _ _, CrS.bad ⟨e, H0.out, HCU.out⟩, HON.out⟩
theorem rcnum_40 (base g : Nat) (s : Option (List UInt8)) (w : World) (hl : stLen s ≤ 16777216) (h : CrS base g w s) :
  Calls Tryz.prog 47 #[.pointer (some ⟨g, 0, none⟩), .int .i64 1099511627776] w fun x w' => x = .returned (.int .i64 ((sNum 1099511627776 s).1 : Int)) ∧ CrS base g w' (sNum 1099511627776 s).2 ∧ Only (· = g) w w' := by
 have h1 := rcnum_any base g 1099511627776 s w hl (Nat.le_refl _) h
 rw [show ((1099511627776 : Nat) : Int) = (1099511627776 : Int) from by simp] at h1
 exact h1
theorem sText_num (most : Nat) (s : Option (List UInt8)) : sText most s = match (sNum 1099511627776 s).2 with
  | none => ([], none)
  | some y => if (sNum 1099511627776 s).1 ≤ most then sRaw (sNum 1099511627776 s).1 (some y) else ([], none) := by
 cases s with
 | none => rfl
 | some r =>
  cases hg : getN 1099511627776 r with
  | none => simp [sText, getT, sNum, hg]
  | some p =>
   obtain ⟨n, y⟩ := p
   have e : sNum 1099511627776 (some r) = (n, some y) := by simp only [sNum, hg]
   rw [e]
   simp only [sText, getT, hg, sRaw]
   by_cases h1 : n ≤ most <;> by_cases h2 : n ≤ y.length <;> simp [h1, h2]
set_option maxRecDepth 100000 in
set_option maxHeartbeats 2000000 in
theorem rctext_any (base g most : Nat) (s : Option (List UInt8)) (w : World) (hl : stLen s ≤ 16777216) (h : CrS base g w s) :
  Calls Tryz.prog 46 #[.pointer (some ⟨g, 0, none⟩), .int .i64 (most : Int)] w fun x w' => ∃ u, x = .returned u ∧ Own EB w.heap.size w' u (sText most s).1 ∧ CrS base g w' (sText most s).2 ∧ Only (· = g) w w' := by
 rw [sText_num]
 have hle := sNum_len 1099511627776 s
 have hn40 : (sNum 1099511627776 s).1 ≤ 1099511627776 := by
  cases s with
  | none => simp [sNum]
  | some r =>
   simp only [sNum]
   cases hg : getN 1099511627776 r with
   | none => simp
   | some p => obtain ⟨n, y⟩ := p; exact (getN_some hg).2.1
 have HC := Lib.hid (rcnum_40 base g s w hl h)
 obtain ⟨n, s', hns⟩ : ∃ n s', sNum 1099511627776 s = (n, s') := ⟨_, _, rfl⟩
 rw [hns] at hle hn40
 simp only [hns]
 have HNS := Lib.hid hns
 clear h hns
 go_enter Tryz.func46, Tryz.ntmps46
 go_wp2_with fail
 refine HC.out.mono ?_
 rintro x w1 ⟨rfl, hc, ho⟩
 rw [HNS.out] at hc ⊢
 obtain ⟨v1, r1, e1, hv1, hbad, hs'⟩ := hc
 have HO := Lib.hid ho
 have HM := Lib.hid hv1
 have hlr := fun W => bytes_len hv1.rest.slice W
 have hsz := ho.size
 clear ho hv1 HC
 by_cases h0 : e1 = 0
 ·subst h0
  rw [if_pos rfl] at hs'
  have hs' : s' = some r1 := hs'
  subst hs'
  by_cases hm : n ≤ most
  ·have hI : ¬ (most : Int) < (n : Int) := by omega
   have HMO := Lib.hid hm
   clear hbad hm
   go_wp2_with (first | (with_reducible refine wpList_loadL HM.out.err rfl _ rfl rfl ?_))
   refine (rcraw_any base g n (some r1) _ (Nat.le_trans hle hl) hn40 (CrS.good HM.out)).mono ?_
   rintro x w2 ⟨u, rfl, hu, hcu, ho2⟩
   have HU := Lib.hid (hu.lower hsz)
   have HCU := Lib.hid hcu
   have HON := Lib.hid (HO.out.trans ho2 fun _ _ h => h)
   clear hu hcu ho2
   go_wp2_with fail
   go_ret
   all_goals first
    | exact ⟨_, rfl, HU.out, HCU.out, HON.out⟩
    | (exfalso; have := HMO.out; omega)
  ·have hI : (most : Int) < (n : Int) := by omega
   have HMO := Lib.hid hm
   clear hbad hm
   go_wp2_with (first | (with_reducible refine wpList_loadL HM.out.err rfl _ rfl rfl ?_))
   refine (rfail_any base g v1 r1 0 3 _ HM.out).mono ?_
   rintro x w9 ⟨⟨rr, rfl⟩, hcu, hon⟩
   have HCU := Lib.hid hcu
   have HON := Lib.hid (HO.out.trans hon fun _ _ h => h)
   clear hcu hon
   go_wp2_with (first | (with_reducible refine wpList_loadL HCU.out.err rfl _ rfl rfl ?_))
   go_ret
   all_goals first
    | exact ⟨_, rfl, Own.nil _ _ _, CrS.bad ⟨3, by omega, HCU.out⟩, HON.out⟩
    | (exfalso; have := HMO.out; omega)
 ·rw [if_neg h0] at hs'
  have hs' : s' = none := hs'
  subst hs'
  obtain ⟨rfl, rfl⟩ := hbad h0
  have hq : ((e1 : Int) == 0) = false := by simp [h0]
  have hq2 : ((e1 : Int) != 0) = true := by simp [h0]
  have H0 := Lib.hid h0
  clear h0 hbad
  go_wp2_with (first | (with_reducible refine wpList_loadL HM.out.err rfl _ rfl rfl ?_))
  go_ret
  exact ⟨_, rfl, Own.nil _ _ _, CrS.bad ⟨e1, H0.out, HM.out⟩, HO.out⟩
end Go.Proofs.YtdebbmembkbniaaGreat
/-! A cursor, where other blocks are written. -/
namespace Go.Proofs.YtdebbmembkbniaaGreat
open Go.RowKit Pl Go.Agg
theorem CuS.keep {base gc : Nat} {w w' : World} {s : Option (List UInt8)} {S : Nat → Prop} (h : CuS base gc w s) (ho : Only S w w') (hS : ¬ S gc) (hr : ∀ k, S k → k < w.heap.size → ∀ cur fr, w.heap[k]? ≠ some (Obj.cells cur 5 fr)) : CuS base gc w' s := by
 obtain ⟨v, r, e, hv, h1, h2⟩ := h
 refine ⟨v, r, e, ⟨hv.blk.only ho hS, restKeepT hv.rest fun k cur fr hk => (ho.block k (Agg.heap_lt hk) fun hs => hr k hs (Agg.heap_lt hk) cur fr hk).trans hk⟩, h1, h2⟩
section
variable {base gc : Nat} {w w' : World} {s : Option (List UInt8)}
theorem CuS.blk (h : CuS base gc w s) : ∃ cs, Blk w gc 158 cs := by
 obtain ⟨v, r, e, hv, _⟩ := h
 exact ⟨_, hv.blk⟩
theorem CuS.other {g : Nat} {t : TypeId} {cs : Array Value} (h : CuS base gc w s) (ho : Only (· = g) w w') (hb : Blk w g t cs) (h2 : t ≠ 158) (h3 : t ≠ 5) : CuS base gc w' s := by
 refine h.keep ho (fun e => ?_) fun k hk _ cur fr hc => ?_
 ·subst e
  obtain ⟨cs', hb'⟩ := h.blk
  exact h2 (hb.type hb')
 ·subst hk
  unfold Blk at hb
  rw [hb] at hc
  injection hc with hc
  injection hc with _ hc
  exact h3 hc
theorem CuS.pushed {α : Type} {E : Elem Tryz.prog α} {B : Nat} {v : Value} (h : CuS base gc w s) (hp : Pushed E B w w' v) (h2 : 158 ≠ E.ty) (h3 : 5 ≠ E.ty) : CuS base gc w' s := by
 obtain ⟨v, r, e, hv, h4, h5⟩ := h
 exact ⟨v, r, e, ⟨hp.blk gc _ _ _ h2 hv.blk, restKeepT hv.rest fun k cur fr hk => hp.blk k _ _ _ h3 hk⟩, h4, h5⟩
end
end Go.Proofs.YtdebbmembkbniaaGreat
/-! copy of bytes into the middle of a block; of one-cell rows in general. -/
namespace Go.Agg
open Go.RowKit
theorem run_copyMid {P : Program} {w : World} (dT sT ty elem : TypeId) (g o n dc : Nat) (a : Addr) (m sc : Nat) (cur : List Value) (t : TypeId) (cs : List Value)
  (hu : P.underlying dT = some (.slice elem)) (hs : (P.info? elem).map (·.size) = some 1) (hb : Blk w g t cur.toArray) (hn : cs.length = Nat.min m n) (hsrc : ∀ j v, cs[j]? = some v → w.cell? (a.add j) = some v)
  (hfit : o + cs.length ≤ cur.length) (h1 : ∀ v ∈ cs, v.oneCell' = true) :
  ∃ w', (Builtin.copy_ #[dT, sT] ty #[.slice (some ⟨g, o, none⟩) n dc, .slice (some a) m sc]).run P w = .ok (goInt cs.length) w' ∧ Blk w' g t (cur.take o ++ cs ++ cur.drop (o + cs.length)).toArray ∧ Only (· = g) w w' ∧ w'.heap.size = w.heap.size := by
 have hrun := run_copy_row (P := P) w dT sT ty elem g o n dc a m sc cur.toArray t cs hu hs hb hn hsrc (by simpa using hfit) h1
 refine ⟨_, hrun, ?_, ⟨rfl, rfl, rfl, by simp [World.setRow], fun k _ hk => setRow_other w g k _ hk⟩, by simp [World.setRow]⟩
 exact setRow_heap w g cur.toArray _ t (0, 0) hb
end Go.Agg
namespace Go.Proofs.YtdebbmembkbniaaGreat
open Go.RowKit Pl Go.Agg
theorem run_copyAt {w : World} {g o n dc : Nat} {t : TypeId} {cur : List Value} {u : Value} {l : List UInt8} (ty : TypeId) (hu : SliceOf EB w u l) (hb : Blk w g t cur.toArray) (ho : o + n ≤ cur.length) :
  ∃ w', (Builtin.copy_ #[23, 23] ty #[.slice (some ⟨g, o, none⟩) n dc, u]).run Tryz.prog w = .ok (.int .i64 ((min l.length n : Nat) : Int)) w' ∧ Blk w' g t (cur.take o ++ Lib.byteCells (l.take n) ++ cur.drop (o + min l.length n)).toArray ∧ Only (· = g) w w' ∧ w'.heap.size = w.heap.size := by
 have hund : Tryz.prog.underlying 23 = some (.slice 5) := by kernel_rfl
 have hsz : (Tryz.prog.info? 5).map (·.size) = some 1 := by kernel_rfl
 have hc : (Lib.byteCells (l.take n)).length = min l.length n := by simp [Lib.byteCells, Nat.min_comm]
 by_cases h0 : l.length = 0
 ·obtain rfl : l = [] := List.length_eq_zero_iff.1 h0
  obtain ⟨p, c, hf⟩ := hu.form
  subst hf
  refine ⟨w, ?_, ?_, Only.refl _ _, rfl⟩
  ·have := run_copy_none (P := Tryz.prog) w 23 23 ty 5 (some ⟨g, o, none⟩) p n dc 0 c hund hsz (by simp)
   simpa [goInt] using this
  ·simpa [Lib.byteCells] using hb
 ·rcases hu with ⟨_, _, _, h1⟩ | ⟨q, c, rfl, hq, hcell⟩
  ·exact absurd (by simp [h1]) h0
  ·rw [flat_bytes] at hcell
   obtain ⟨w', h1, h2, h3, h4⟩ := run_copyMid (P := Tryz.prog) 23 23 ty 5 g o n dc q l.length c cur t (Lib.byteCells (l.take n)) hund hsz hb (by rw [hc])
    (fun j v hj => hcell j v (by
     simp only [Lib.byteCells, List.getElem?_map, List.getElem?_take] at hj ⊢
     split at hj
     ·exact hj
     ·simp at hj)) (by rw [hc]; omega)
    (fun v hv => by
     simp only [Lib.byteCells, List.mem_map] at hv
     obtain ⟨b, _, rfl⟩ := hv
     rfl)
   rw [hc] at h1 h2
   exact ⟨w', h1, h2, h3, h4⟩
end Go.Proofs.YtdebbmembkbniaaGreat
/-! (of general use) The document's cursor, where other blocks are written. -/
namespace Go.Agg
open Go.RowKit
variable {P : Program} {α : Type} {E : Elem P α} {base : Nat} {w w' : World} {v : Value} {l : List α}
theorem Own.onlyX {S : Nat → Prop} (h : Own E base w v l) (ho : Only S w w') (hS : ∀ k, v.ownBlock = some k → ¬ S k) : Own E base w' v l := by
 obtain ⟨h1, h2⟩ := h
 refine ⟨h1, ?_⟩
 rcases h2 with h2 | ⟨g, cap, cur, e1, e2, e3, e4⟩
 ·exact .inl h2
 ·exact .inr ⟨g, cap, cur, e1, e2, (ho.block g (heap_lt e3) (hS g (by rw [e1]; rfl))).trans e3, e4⟩
end Go.Agg
namespace Go.Proofs.YtdebbmembkbniaaGreat
open Go.RowKit Pl Go.Agg
theorem CrS.other {base gc : Nat} {w w' : World} {s : Option (List UInt8)} {g : Nat} {t : TypeId} {cs : Array Value} (h : CrS base gc w s) (ho : Only (· = g) w w') (hb : Blk w g t cs) (h1 : t ≠ 107) (h2 : t ≠ 5) : CrS base gc w' s := by
 obtain ⟨v, r, e, hv, h3, h4⟩ := h
 refine ⟨v, r, e, ⟨hv.blk.only ho (fun e => h1 ?_), restKeepT hv.rest fun k cur fr hk => (ho.block k (Agg.heap_lt hk) fun e => h2 ?_).trans hk⟩, h3, h4⟩
 ·subst e; exact hb.type hv.blk
 ·subst e
  unfold Blk at hb
  rw [hb] at hk
  injection hk with hk
  injection hk with _ hk
theorem CrS.pushed {base gc B : Nat} {w w' : World} {s : Option (List UInt8)} {α : Type} {E : Elem Tryz.prog α} {v : Value} (h : CrS base gc w s) (hp : Pushed E B w w' v) (h2 : 107 ≠ E.ty) (h3 : 5 ≠ E.ty) : CrS base gc w' s := by
 obtain ⟨v, r, e, hv, h4, h5⟩ := h
 exact ⟨v, r, e, ⟨hp.blk gc _ _ _ h2 hv.blk, restKeepT hv.rest fun k cur fr hk => hp.blk k _ _ _ h3 hk⟩, h4, h5⟩
theorem CrS.blk {base gc : Nat} {w : World} {s : Option (List UInt8)} (h : CrS base gc w s) : ∃ cs, Blk w gc 107 cs := by
 obtain ⟨v, r, e, hv, _⟩ := h
 exact ⟨_, hv.blk⟩
theorem cr_buildK {v : Value} (hv : ∃ p n c, v = .slice p n c) (W : World) : (Instr.build 107 #[(0, v)]).run Tryz.prog W = .ok (.agg (cuC v 0)) W := by
 obtain ⟨p, n, c, rfl⟩ := hv
 kernel_rfl
theorem wpList_copyK {ops : Array Oper} {rest : List Oper} {o : Oper} {a : Act} {w w' : World} {Q : Exit → Act → World → Prop} (hw : Region.wanted o (yielded ops a.tmps) = true) (d s : Operand)
  (ho : o.op = .call { callee := .builtin .copy, args := #[d, s], argTypes := #[23, 23] }) (x y r : Value) (hd : a.eval d = x) (hs : a.eval s = y)
  (hrun : (Builtin.copy_ #[23, 23] o.type #[x, y]).run Tryz.prog w = .ok r w') (h : wpList Tryz.prog ops Q rest (a.put o.dst r) w') : wpList Tryz.prog ops Q (o :: rest) a w := by
 refine wpList_valw hw ?_ h
 simp [execOp, ho, resolve, invoke, builtin, hd, hs, hrun]
end Go.Proofs.YtdebbmembkbniaaGreat
