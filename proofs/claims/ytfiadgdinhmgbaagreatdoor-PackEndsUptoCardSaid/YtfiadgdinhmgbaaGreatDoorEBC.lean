/- .. Num. (Several texts in one.) -/
import Derived.Test.YtfiadgdinhmgbaaGreatDoorEBB
/-! spenceref01.Cursor as a state: contracts without cases; Text. -/
namespace Go.Proofs.YtfiadgdinhmgbaaGreatDoor
open Go.RowKit Pl Go.Agg
set_option maxRecDepth 100000 in
set_option maxHeartbeats 1000000 in
theorem rcnum_any (base g most : Nat) (s : Option (List UInt8)) (w : World) (hl : stLen s ≤ 16777216) (hmo : most ≤ 1099511627776) (h : CrS base g w s) :
  Calls Tryz.prog 49 #[.pointer (some ⟨g, 0, none⟩), .int .i64 (most : Int)] w fun x w' => x = .returned (.int .i64 ((sNum most s).1 : Int)) ∧ CrS base g w' (sNum most s).2 ∧ Only (· = g) w w' := by
 obtain ⟨v, r, e, hv, hbad, rfl⟩ := h
 by_cases h0 : e = 0
 ·subst h0
  refine (rcnum_good base g most v r w (by simpa [stLen] using hl) hmo hv).mono ?_
  rintro x w' ⟨hc, ho⟩
  rcases hc with ⟨n, y, v', hg, rfl, hcu⟩ | ⟨hg, rfl, hcu⟩
  ·simp only [if_true, sNum, hg]
   exact ⟨trivial, CrS.good hcu, ho⟩
  ·simp only [if_true, sNum, hg]
   exact ⟨rfl, CrS.bad hcu, ho⟩
 ·obtain ⟨rfl, rfl⟩ := hbad h0
  simp only [if_neg h0, sNum]
  have hq : ((e : Int) == 0) = false := by simp [h0]
  have H0 := Lib.hid h0
  have HM := Lib.hid hv
  have hlr := fun W => bytes_len hv.rest.slice W
  clear h0 hv hbad hl
  go_enter Tryz.func49, Tryz.ntmps49
  go_wp2_with fail
  go_loopw [5, 6, 7] (fun nn u i wr => i = .int .i64 0 ∧ wr = w) (fun _ _ i _ => 0)
  case atStart => exact ⟨rfl, rfl⟩
  case round =>
   obtain ⟨rfl, rfl⟩ := hrel
   go_wp2_with (first | (with_reducible refine wpList_loadL HM.out.load rfl _ rfl rfl ?_) | (with_reducible refine wpList_loadL HM.out.err rfl _ rfl rfl ?_))
   refine (rfail_any base g (.slice none 0 0) [] e 4 _ HM.out).mono ?_
   rintro x w9 ⟨⟨rr, rfl⟩, hcu, hon⟩
   rw [if_neg H0.out] at hcu
   have HCU := Lib.hid hcu
   have HON := Lib.hid hon
   clear hcu hon
   go_wp2_with fail
   go_ret
   exact ⟨rfl, CrS.bad ⟨e, H0.out, HCU.out⟩, HON.out⟩
set_option maxRecDepth 100000 in
set_option maxHeartbeats 1000000 in
theorem rcraw_any (base g many : Nat) (s : Option (List UInt8)) (w : World) (hl : stLen s ≤ 16777216) (hmo : many ≤ 1099511627776) (h : CrS base g w s) :
  Calls Tryz.prog 92 #[.pointer (some ⟨g, 0, none⟩), .int .i64 (many : Int)] w fun x w' => ∃ u, x = .returned u ∧ Own EB w.heap.size w' u (sRaw many s).1 ∧ CrS base g w' (sRaw many s).2 ∧ Only (· = g) w w' := by
 obtain ⟨v, r, e, hv, hbad, rfl⟩ := h
 by_cases h0 : e = 0
 ·subst h0
  by_cases hle : many ≤ r.length
  ·refine (rcraw_good base g many v r w (by simpa [stLen] using hl) hle hv).mono ?_
   rintro x w' ⟨u, v', rfl, hu, hcu, ho⟩
   simp only [if_true, sRaw, if_pos hle]
   exact ⟨u, rfl, hu, CrS.good hcu, ho⟩
  ·simp only [if_true, sRaw, if_neg hle]
   have hI : (r.length : Int) < (many : Int) := by omega
   have hI0 : ¬ (many : Int) < 0 := by omega
   have HM := Lib.hid hv
   have hlr := fun W => bytes_len hv.rest.slice W
   clear hv hbad hl hle
   go_enter Tryz.func92, Tryz.ntmps92
   go_wp2_with (first | (with_reducible refine wpList_loadL HM.out.load rfl _ rfl rfl ?_) | (with_reducible refine wpList_loadL HM.out.err rfl _ rfl rfl ?_))
   refine (rfail_any base g v r 0 4 _ HM.out).mono ?_
   rintro x w9 ⟨⟨rr, rfl⟩, hcu, hon⟩
   have HCU := Lib.hid hcu
   have HON := Lib.hid hon
   clear hcu hon
   go_wp2_with fail
   go_ret
   exact ⟨_, rfl, Own.nil _ _ _, CrS.bad ⟨4, by omega, HCU.out⟩, HON.out⟩
 ·obtain ⟨rfl, rfl⟩ := hbad h0
  simp only [if_neg h0, sRaw]
  have hq : ((e : Int) != 0) = true := by simp [h0]
  have H0 := Lib.hid h0
  have HM := Lib.hid hv
  clear h0 hv hbad hl
  go_enter Tryz.func92, Tryz.ntmps92
  go_wp2_with (first | (with_reducible refine wpList_loadL HM.out.load rfl _ rfl rfl ?_) | (with_reducible refine wpList_loadL HM.out.err rfl _ rfl rfl ?_))
  refine (rfail_any base g (.slice none 0 0) [] e 4 _ HM.out).mono ?_
  rintro x w9 ⟨⟨rr, rfl⟩, hcu, hon⟩
  rw [if_neg H0.out] at hcu
  have HCU := Lib.hid hcu
  have HON := Lib.hid hon
  clear hcu hon
  go_wp2_with fail
  go_ret
  exact ⟨_, rfl, Own.nil _ _ _, CrS.bad ⟨e, H0.out, HCU.out⟩, HON.out⟩
theorem rcnum_40 (base g : Nat) (s : Option (List UInt8)) (w : World) (hl : stLen s ≤ 16777216) (h : CrS base g w s) :
  Calls Tryz.prog 49 #[.pointer (some ⟨g, 0, none⟩), .int .i64 1099511627776] w fun x w' => x = .returned (.int .i64 ((sNum 1099511627776 s).1 : Int)) ∧ CrS base g w' (sNum 1099511627776 s).2 ∧ Only (· = g) w w' := by
 have h1 := rcnum_any base g 1099511627776 s w hl (Nat.le_refl _) h
 rw [show ((1099511627776 : Nat) : Int) = (1099511627776 : Int) from by simp] at h1
 exact h1
theorem sText_num (most : Nat) (s : Option (List UInt8)) : sText most s = match (sNum 1099511627776 s).2 with
  | none => ([], none)
  | some y => if (sNum 1099511627776 s).1 ≤ most then sRaw (sNum 1099511627776 s).1 (some y) else ([], none) := by
 cases s with
 | none => rfl
 | some r =>
  cases hg : getN 1099511627776 r with
  | none => simp [sText, getT, sNum, hg]
  | some p =>
   obtain ⟨n, y⟩ := p
   have e : sNum 1099511627776 (some r) = (n, some y) := by simp only [sNum, hg]
   rw [e]
   simp only [sText, getT, hg, sRaw]
   by_cases h1 : n ≤ most <;> by_cases h2 : n ≤ y.length <;> simp [h1, h2]
set_option maxRecDepth 100000 in
set_option maxHeartbeats 2000000 in
theorem rctext_any (base g most : Nat) (s : Option (List UInt8)) (w : World) (hl : stLen s ≤ 16777216) (h : CrS base g w s) :
  Calls Tryz.prog 50 #[.pointer (some ⟨g, 0, none⟩), .int .i64 (most : Int)] w fun x w' => ∃ u, x = .returned u ∧ Own EB w.heap.size w' u (sText most s).1 ∧ CrS base g w' (sText most s).2 ∧ Only (· = g) w w' := by
 rw [sText_num]
 have hle := sNum_len 1099511627776 s
 have hn40 : (sNum 1099511627776 s).1 ≤ 1099511627776 := by
  cases s with
  | none => simp [sNum]
  | some r =>
   simp only [sNum]
   cases hg : getN 1099511627776 r with
   | none => simp
   | some p => obtain ⟨n, y⟩ := p; exact (getN_some hg).2.1
 have HC := Lib.hid (rcnum_40 base g s w hl h)
 obtain ⟨n, s', hns⟩ : ∃ n s', sNum 1099511627776 s = (n, s') := ⟨_, _, rfl⟩
 rw [hns] at hle hn40
 simp only [hns]
 have HNS := Lib.hid hns
 clear h hns
 go_enter Tryz.func50, Tryz.ntmps50
 go_wp2_with fail
 refine HC.out.mono ?_
 rintro x w1 ⟨rfl, hc, ho⟩
 rw [HNS.out] at hc ⊢
 obtain ⟨v1, r1, e1, hv1, hbad, hs'⟩ := hc
 have HO := Lib.hid ho
 have HM := Lib.hid hv1
 have hlr := fun W => bytes_len hv1.rest.slice W
 have hsz := ho.size
 clear ho hv1 HC
 by_cases h0 : e1 = 0
 ·subst h0
  rw [if_pos rfl] at hs'
  have hs' : s' = some r1 := hs'
  subst hs'
  by_cases hm : n ≤ most
  ·have hI : ¬ (most : Int) < (n : Int) := by omega
   have HMO := Lib.hid hm
   clear hbad hm
   go_wp2_with (first | (with_reducible refine wpList_loadL HM.out.err rfl _ rfl rfl ?_))
   refine (rcraw_any base g n (some r1) _ (Nat.le_trans hle hl) hn40 (CrS.good HM.out)).mono ?_
   rintro x w2 ⟨u, rfl, hu, hcu, ho2⟩
   have HU := Lib.hid (hu.lower hsz)
   have HCU := Lib.hid hcu
   have HON := Lib.hid (HO.out.trans ho2 fun _ _ h => h)
   clear hu hcu ho2
   go_wp2_with fail
   go_ret
   all_goals first
    | exact ⟨_, rfl, HU.out, HCU.out, HON.out⟩
    | (exfalso; have := HMO.out; omega)
  ·have hI : (most : Int) < (n : Int) := by omega
   have HMO := Lib.hid hm
   clear hbad hm
   go_wp2_with (first | (with_reducible refine wpList_loadL HM.out.err rfl _ rfl rfl ?_))
   refine (rfail_any base g v1 r1 0 3 _ HM.out).mono ?_
   rintro x w9 ⟨⟨rr, rfl⟩, hcu, hon⟩
   have HCU := Lib.hid hcu
   have HON := Lib.hid (HO.out.trans hon fun _ _ h => h)
   clear hcu hon
   go_wp2_with (first | (with_reducible refine wpList_loadL HCU.out.err rfl _ rfl rfl ?_))
   go_ret
   all_goals first
    | exact ⟨_, rfl, Own.nil _ _ _, CrS.bad ⟨3, by omega, HCU.out⟩, HON.out⟩
    | (exfalso; have := HMO.out; omega)
 ·rw [if_neg h0] at hs'
  have hs' : s' = none := hs'
  subst hs'
  obtain ⟨rfl, rfl⟩ := hbad h0
  have hq : ((e1 : Int) == 0) = false := by simp [h0]
  have hq2 : ((e1 : Int) != 0) = true := by simp [h0]
  have H0 := Lib.hid h0
  clear h0 hbad
  go_wp2_with (first | (with_reducible refine wpList_loadL HM.out.err rfl _ rfl rfl ?_))
  go_ret
  exact ⟨_, rfl, Own.nil _ _ _, CrS.bad ⟨e1, H0.out, HM.out⟩, HO.out⟩
end Go.Proofs.YtfiadgdinhmgbaaGreatDoor
/-! spenceref01.Cursor over the bytes of an argument: fail, End, Raw. -/
namespace Go.Proofs.YtfiadgdinhmgbaaGreatDoor
open Go.RowKit Pl Go.Agg
def RestA (base g : Nat) (w : World) (v : Value) (r : List UInt8) : Prop := base ≤ g ∧ (∃ p c, v = .slice p r.length c ∧ r.length ≤ c) ∧ BytesAt w v r ∧ (r = [] ∨ ∀ k, v.ownBlock = some k → k < base)
theorem argDropped {w : World} {p : Option Addr} {c : Nat} {l : List UInt8} (h : BytesAt w (.slice p l.length c) l) (hc : l.length ≤ c) (k : Nat) (hk : k ≤ l.length) :
  BytesAt w (.slice (if c = k then p else p.map (·.add k)) (l.length - k) (c - k)) (l.drop k) := by
 rcases h with ⟨q, d, e, rfl⟩ | ⟨q, d, e, hq, hcell⟩
 ·simp only [List.length_nil, Nat.le_zero_eq] at hk
  subst hk
  exact SliceOf.nil _ _ _
 ·simp only [Value.slice.injEq] at e
  obtain ⟨rfl, _, rfl⟩ := e
  by_cases hck : c = k
  ·rw [if_pos hck, List.drop_eq_nil_of_le (by omega), show l.length - k = 0 by omega]
   exact SliceOf.nil _ _ _
  ·rw [if_neg hck]
   refine .inr ⟨q.add k, c - k, by simp, by rw [add_block]; exact hq, fun j u hj => ?_⟩
   have e : EB.flat l = EB.flat (l.take k) ++ EB.flat (l.drop k) := by rw [← Elem.flat_append, List.take_append_drop]
   have hlen : (EB.flat (l.take k)).length = k := by rw [Elem.flat_length, show EB.n = 1 from rfl, List.length_take]; omega
   have := hcell (k + j) u (by rw [e, List.getElem?_append_right (by omega), hlen, show k + j - k = j by omega]; exact hj)
   rwa [← add_add] at this
theorem RestA.slice {base g : Nat} {w : World} {v : Value} {r : List UInt8} (h : RestA base g w v r) : BytesAt w v r := h.2.2.1
theorem RestA.nil {base g : Nat} {w : World} (h : base ≤ g) : RestA base g w (.slice none 0 0) [] := ⟨h, ⟨none, 0, rfl, by simp⟩, SliceOf.nil _ _ _, .inl rfl⟩
theorem RestA.below {base g : Nat} {w w' : World} {v : Value} {r : List UInt8} (h : RestA base g w v r) (hb : Below w.heap.size w w') : RestA base g w' v r := ⟨h.1, h.2.1, SliceOf.below h.2.2.1 hb, h.2.2.2⟩
theorem RestA.keep {base g : Nat} {w w' : World} {v : Value} {r : List UInt8} (h : RestA base g w v r) (hs : w.heap.size ≤ w'.heap.size) (hb : ∀ k, k < base → k < w.heap.size → w'.heap[k]? = w.heap[k]?) : RestA base g w' v r := by
 refine ⟨h.1, h.2.1, ?_, h.2.2.2⟩
 rcases h.2.2.2 with rfl | hk
 ·obtain ⟨p, c, hf, _⟩ := h.2.1
  rw [hf]; exact SliceOf.nil _ _ _
 ·rcases h.2.2.1 with h1 | ⟨p, cap, rfl, hp, hc⟩
  ·exact .inl h1
  ·refine .inr ⟨p, cap, rfl, Nat.lt_of_lt_of_le hp hs, fun j u hj => ?_⟩
   have hlt := hk p.block rfl
   have e : w'.cell? (p.add j) = w.cell? (p.add j) := by simp only [World.cell?, add_block, hb p.block hlt hp]
   rw [e]; exact hc j u hj
theorem RestA.of_arg {w : World} {v : Value} {r : List UInt8} {g : Nat} (h : BytesAt w v r) (hc : ∀ p n c, v = .slice p n c → n ≤ c) (hg : w.heap.size ≤ g) : RestA w.heap.size g w v r := by
 refine ⟨hg, ?_, h, ?_⟩
 ·obtain ⟨p, c, hf⟩ := h.form
  exact ⟨p, c, hf, hc _ _ _ hf⟩
 ·rcases h with ⟨p, c, _, rfl⟩ | ⟨p, cap, rfl, hp, _⟩
  ·exact .inl rfl
  ·exact .inr fun k hk => by simp only [Value.ownBlock, Option.some.injEq] at hk; omega
theorem arest_high {base g : Nat} {w : World} {v : Value} {r : List UInt8} (h : RestA base g w v r) (k : Nat) (hk : k ≤ r.length) :
  ∃ vx, (∀ W, (Instr.sliceAt 23 v none (some (.int .i64 (k : Int))) none).run Tryz.prog W = .ok vx W) ∧ BytesAt w vx (r.take k) := by
 obtain ⟨_, ⟨q, c, rfl, hc⟩, hs, _⟩ := h
 exact ⟨_, fun W => runHigh q r.length c k (by omega) W, sliceOf_taken hs k hk⟩
theorem arest_low {base g : Nat} {w : World} {v : Value} {r : List UInt8} (h : RestA base g w v r) (k : Nat) (hk : k ≤ r.length) :
  ∃ vx, (∀ W, (Instr.sliceAt 23 v (some (.int .i64 (k : Int))) none none).run Tryz.prog W = .ok vx W) ∧ RestA base g w vx (r.drop k) ∧ vx.cells = #[vx] ∧ vx.oneCell' = true := by
 obtain ⟨hg, ⟨q, c, rfl, hc⟩, hs, hb⟩ := h
 refine ⟨_, fun W => runLow _ _ _ k hk W, ⟨hg, ⟨_, _, by rw [List.length_drop], by rw [List.length_drop]; omega⟩, argDropped hs hc k hk, ?_⟩, rfl, rfl⟩
 rcases hb with rfl | hb
 ·exact .inl (by simp)
 ·right
  intro j hj
  split at hj
  ·exact hb j (by cases q with
    | none => simp [Value.ownBlock] at hj
    | some p => simpa [Value.ownBlock] using hj)
  ·cases q with
   | none => simp [Value.ownBlock] at hj
   | some p => exact hb j (by simpa [Value.ownBlock, add_block] using hj)
structure CaV (base g : Nat) (w : World) (v : Value) (r : List UInt8) (e : Nat) : Prop where
 blk : Blk w g 61 (cuC v e)
 rest : RestA base g w v r
section
variable {base g : Nat} {w w' : World} {v : Value} {r : List UInt8} {e : Nat}
theorem CaV.load (h : CaV base g w v r e) : LoadsL Tryz.prog w 23 (some ⟨g, 0, none⟩) v :=
 h.blk.one (P := Tryz.prog) 0 rfl (by kernel_rfl : Tryz.prog.underlying 23 = some (.slice 5)) rfl
theorem CaV.err (h : CaV base g w v r e) : LoadsL Tryz.prog w 35 (some ⟨g, 1, none⟩) (.int .i64 (e : Int)) :=
 h.blk.one (P := Tryz.prog) 1 rfl Tryz.underlying35 rfl
theorem CaV.below (h : CaV base g w v r e) (hb : Below w.heap.size w w') : CaV base g w' v r e := ⟨h.blk.below hb, h.rest.below hb⟩
theorem CaV.put (h : CaV base g w v r e) (i : Nat) (hi : i < 2) (u : Value) (hu : u.cells = #[u]) (h1 : u.oneCell' = true) {ty : TypeId} (hs : (Tryz.prog.info? ty).map (·.size) = some 1) :
  ∃ w', (Instr.storeAt ty (.pointer (some ⟨g, i, none⟩)) u).run Tryz.prog w = .ok () w' ∧ Blk w' g 61 ((cuC v e).setIfInBounds i u) ∧ Only (· = g) w w' ∧ (∀ {x : Value} {l : List UInt8}, RestA base g w x l → RestA base g w' x l) := by
 have ho : Only (· = g) w (w.setCell ⟨g, i, none⟩ u) := ⟨rfl, rfl, rfl, by simp [World.setCell], fun k _ hk => Below.heap_setCell _ _ _ _ hk⟩
 exact ⟨_, h.blk.run_put i (by simpa [cuC] using hi) u hu h1 hs, h.blk.set i u, ho, fun {x l} hr => hr.keep ho.size fun k hk hk2 => ho.block k hk2 (by have := hr.1; show k ≠ g; omega)⟩
end
set_option maxRecDepth 100000 in
set_option maxHeartbeats 1000000 in
theorem afail_any (base g : Nat) (v : Value) (r : List UInt8) (e c : Nat) (w : World) (hm : CaV base g w v r e) :
  Calls Tryz.prog 91 #[.pointer (some ⟨g, 0, none⟩), .int .i64 (c : Int)] w fun x w' => (∃ r, x = .returned r) ∧ CaV base g w' (.slice none 0 0) [] (if e = 0 then c else e) ∧ Only (· = g) w w' := by
 have HE := Lib.hid hm.err
 have HM := Lib.hid hm
 clear hm
 by_cases h0 : e = 0
 ·subst h0
  obtain ⟨w1, hrun1, hb1, ho1, hr1⟩ := HM.out.put (ty := 35) 1 (by omega) (.int .i64 (c : Int)) rfl rfl (by kernel_rfl)
  have hm1 : CaV base g w1 v r c := ⟨hb1, hr1 HM.out.rest⟩
  obtain ⟨w2, hrun2, hb2, ho2, _⟩ := hm1.put (ty := 23) 0 (by omega) (.slice none 0 0) rfl rfl (by kernel_rfl)
  have HO := Lib.hid (ho1.trans ho2 fun _ _ h => h)
  have HB := Lib.hid hb2
  clear hb1 ho1 hr1 hm1 hb2 ho2
  go_enter Tryz.func91, Tryz.ntmps91
  go_wp2_with (first | (with_reducible refine wpList_loadL HE.out rfl _ rfl rfl ?_) | (refine wpList_store rfl rfl 35 _ _ rfl (.pointer (some ⟨g, 1, none⟩)) _ rfl rfl hrun1 ?_) | (refine wpList_store rfl rfl 23 _ _ rfl (.pointer (some ⟨g, 0, none⟩)) _ rfl rfl hrun2 ?_))
  refine bodyPost_end (results_none rfl _ _ _) rfl ?_
  exact ⟨⟨_, rfl⟩, ⟨HB.out, RestA.nil HM.out.rest.1⟩, HO.out⟩
 ·obtain ⟨w2, hrun2, hb2, ho2, _⟩ := HM.out.put (ty := 23) 0 (by omega) (.slice none 0 0) rfl rfl (by kernel_rfl)
  have hq : ((e : Int) == 0) = false := by simp [h0]
  have HH := Lib.hid h0
  have HO := Lib.hid ho2
  have HB := Lib.hid hb2
  clear hb2 ho2 h0
  go_enter Tryz.func91, Tryz.ntmps91
  go_wp2_with (first | (with_reducible refine wpList_loadL HE.out rfl _ rfl rfl ?_) | (refine wpList_store rfl rfl 23 _ _ rfl (.pointer (some ⟨g, 0, none⟩)) _ rfl rfl hrun2 ?_))
  refine bodyPost_end (results_none rfl _ _ _) rfl ?_
  exact ⟨⟨_, rfl⟩, ⟨HB.out, RestA.nil HM.out.rest.1⟩, HO.out⟩
def CaBad (base g : Nat) (w : World) : Prop := ∃ e, e ≠ 0 ∧ CaV base g w (.slice none 0 0) [] e
def CaS (base g : Nat) (w : World) (s : Option (List UInt8)) : Prop := ∃ v r e, CaV base g w v r e ∧ (e ≠ 0 → v = .slice none 0 0 ∧ r = []) ∧ s = (if e = 0 then some r else none)
theorem CaS.good {base g : Nat} {w : World} {v : Value} {r : List UInt8} (h : CaV base g w v r 0) : CaS base g w (some r) := ⟨v, r, 0, h, fun h => absurd rfl h, rfl⟩
theorem CaS.bad {base g : Nat} {w : World} (h : CaBad base g w) : CaS base g w none := by
 obtain ⟨e, he, h⟩ := h
 exact ⟨_, _, e, h, fun _ => ⟨rfl, rfl⟩, by rw [if_neg he]⟩
theorem CaS.below {base g : Nat} {w w' : World} {s : Option (List UInt8)} (h : CaS base g w s) (hb : Below w.heap.size w w') : CaS base g w' s := by
 obtain ⟨v, r, e, h, h1, h2⟩ := h
 exact ⟨v, r, e, h.below hb, h1, h2⟩
theorem CaS.lt {base g : Nat} {w : World} {s : Option (List UInt8)} (h : CaS base g w s) : g < w.heap.size := by
 obtain ⟨v, r, e, h, _⟩ := h
 exact h.blk.lt
set_option maxRecDepth 100000 in
set_option maxHeartbeats 2000000 in
theorem acraw_good (base g many : Nat) (v : Value) (r : List UInt8) (w : World) (hr : r.length ≤ 16777216) (hle : many ≤ r.length) (hm : CaV base g w v r 0) :
  Calls Tryz.prog 92 #[.pointer (some ⟨g, 0, none⟩), .int .i64 (many : Int)] w fun x w' => ∃ u v', x = .returned u ∧ Own EB w.heap.size w' u (r.take many) ∧ CaV base g w' v' (r.drop many) 0 ∧ Only (· = g) w w' := by
 have hlr := fun W => bytes_len hm.rest.slice W
 have HM := Lib.hid hm
 have hI : ¬ (r.length : Int) < (many : Int) := by omega
 have hI0 : ¬ (many : Int) < 0 := by omega
 obtain ⟨vx, hsv, hbx⟩ := arest_high hm.rest many hle
 have HBX := Lib.hid hbx
 have HLE := Lib.hid hle
 have h63 : ([] : List UInt8).length + (r.take many).length ≤ 1099511627776 / 8 := by simp; omega
 clear hm hbx hle
 go_enter Tryz.func92, Tryz.ntmps92
 go_wp2_with (first | (with_reducible refine wpList_loadL HM.out.load rfl _ rfl rfl ?_) | (with_reducible refine wpList_loadL HM.out.err rfl _ rfl rfl ?_) | (refine wpList_slice0 (base := w.heap.size) EB rfl rfl (Nat.le_refl _) ?_; intro v0 w1 ho1 hx1 hne1; have HO1 := Lib.hid ho1; have HX1 := Lib.hid hx1; have HM1 := Lib.hid (HM.out.below hx1); have HBX1 := Lib.hid (HBX.out.below hx1); have hsz1 := hx1.size; clear ho1 hx1 hne1) | (with_reducible refine wpList_loadL HM1.out.load rfl _ rfl rfl ?_) | (refine Agg.wpList_appendS (E := EB) (base := w.heap.size) rfl _ _ rfl vx rfl rfl (r.take many) HO1.out HBX1.out h63 (by decide) hsz1 ?_; intro v2 w2 ho2 hp2 hne2; have HO2 := Lib.hid ho2; have HX2 := Lib.hid (HX1.out.trans (hp2.below w.heap.size (Nat.le_refl _) hsz1)); have HM2 := Lib.hid (HM.out.below HX2.out); obtain ⟨vy, hsy, hry, hyc, hy1⟩ := arest_low HM2.out.rest many HLE.out; obtain ⟨w3, hrun, hb3, ho3, hr3⟩ := HM2.out.put (ty := 23) 0 (by omega) vy hyc hy1 (by kernel_rfl); have HCU := Lib.hid (show CaV base g w3 vy (r.drop many) 0 from ⟨hb3, hr3 hry⟩); have HON := Lib.hid ho3; clear ho2 hp2 hne2 hry hyc hy1 hb3 ho3 hr3) | (with_reducible refine wpList_loadL HM2.out.load rfl _ rfl rfl ?_) | (refine wpList_store rfl rfl 23 _ _ rfl (.pointer (some ⟨g, 0, none⟩)) _ rfl rfl hrun ?_))
 go_ret
 refine ⟨v2, rfl, ?_, ⟨vy, HCU.out⟩, (Only.of_below (S := (· = g)) HX2.out).trans HON.out fun _ _ h => h⟩
 have hown : Own EB w.heap.size w2 v2 (r.take many) := by simpa using HO2.out
 exact hown.keepT fun k cur fr hk => (HON.out.block k (Agg.heap_lt hk) (fun h => by
  obtain rfl : k = g := h
  have hb := HM2.out.blk
  unfold Blk at hb
  rw [hk] at hb
  injection hb with hb
  injection hb with _ hb
  exact absurd hb (by decide))).trans hk
end Go.Proofs.YtfiadgdinhmgbaaGreatDoor
/-! .. Num. -/
namespace Go.Proofs.YtfiadgdinhmgbaaGreatDoor
open Go.RowKit Pl Go.Agg
def ANum (base g most : Nat) (r : List UInt8) (x : Ending) (w' : World) : Prop :=
 (∃ n y v', getN most r = some (n, y) ∧ x = .returned (.int .i64 (n : Int)) ∧ CaV base g w' v' y 0) ∨ (getN most r = none ∧ x = .returned (.int .i64 0) ∧ CaBad base g w')
set_option maxRecDepth 100000 in
set_option maxHeartbeats 8000000 in
theorem acnum_good (base g most : Nat) (v : Value) (r : List UInt8) (w : World) (hr : r.length ≤ 16777216) (_hmo : most ≤ 1099511627776) (hm : CaV base g w v r 0) :
  Calls Tryz.prog 49 #[.pointer (some ⟨g, 0, none⟩), .int .i64 (most : Int)] w fun x w' => ANum base g most r x w' ∧ Only (· = g) w w' := by
 have hlr := fun W => bytes_len hm.rest.slice W
 have HM := Lib.hid hm
 clear hm
 go_enter Tryz.func49, Tryz.ntmps49
 go_wp2_with fail
 go_loopw [5, 6, 7] (fun nn u i wr => ∃ k N : Nat, k ≤ 6 ∧ k ≤ r.length ∧ i = .int .i64 (k : Int) ∧ nn = .int .i64 (N : Int) ∧ u = .int .i64 ((128 ^ k : Nat) : Int) ∧ numGo 0 0 r = numGo k N (r.drop k) ∧ N < 128 ^ k ∧ wr = w) (fun _ _ i _ => 6 - (intOf i).toNat)
 case atStart => exact ⟨0, 0, by omega, by omega, rfl, rfl, rfl, by simp, by simp, rfl⟩
 case round =>
  obtain ⟨k, N, hk, hkl, rfl, rfl, hu, hgo, hN, rfl⟩ := hrel
  have HGO := Lib.hid hgo
  clear hgo
  by_cases hlt : k < 6 ∧ k < r.length
  ·obtain ⟨h3, hlt⟩ := hlt
   have hk3 : k = 0 ∨ k = 1 ∨ k = 2 ∨ k = 3 ∨ k = 4 ∨ k = 5 := by omega
   obtain ⟨b, hbk⟩ : ∃ b, r[k]? = some b := ⟨_, List.getElem?_eq_getElem (by omega)⟩
   have hdrop : r.drop k = b :: r.drop (k + 1) := by
    obtain ⟨h1, rfl⟩ := List.getElem?_eq_some_iff.1 hbk
    exact List.drop_eq_getElem_cons h1
   have HGOB := Lib.hid (show numGo 0 0 r = numGo k N (b :: r.drop (k + 1)) by rw [HGO.out, hdrop])
   obtain ⟨x, hx⟩ : ∃ x, b.toNat % 128 = x := ⟨_, rfl⟩
   have hx128 : x < 128 := by omega
   have hxI : (b.toNat : Int) % 128 = (x : Int) := by omega
   obtain ⟨M, hM⟩ : ∃ M, N + x * 128 ^ k = M := ⟨_, rfl⟩
   have HSTEP := Lib.hid (show numGo k N (b :: r.drop (k + 1)) = if b.toNat < 128 then (k + 1, M) else numGo (k + 1) M (r.drop (k + 1)) by
    simp only [numGo]
    rw [if_neg (by omega)]
    split
    ·rename_i h
     rw [← hM, ← hx, Nat.mod_eq_of_lt h]
    ·rw [hx, hM])
   have HMM := Lib.hid hM
   have HN := Lib.hid hN
   clear hdrop hx hM hN HGO h3
   rcases hk3 with rfl | rfl | rfl | rfl | rfl | rfl
   ·obtain ⟨q, hadr0, hld⟩ := byte_at HM.out.rest.slice 0 b hbk
    have hadr : ∀ W, (Instr.indexAt 23 v (.int .i64 0)).run Tryz.prog W = .ok (.pointer (some q)) W := hadr0
    have HL := Lib.hid hld
    have hsum : (N : Int) + (x : Int) = (M : Int) := by have h := HMM.out; simp only [Nat.reducePow, Nat.mul_one] at h; omega
    have hMb : M < 128 := by have h1 := HMM.out; have h2 := HN.out; simp only [Nat.reducePow] at h1 h2; omega
    have hb256 : b.toNat < 256 := b.toNat_lt
    have hlI : (0 : Int) < (r.length : Int) := by omega
    have hu' := hu.trans (rfl : (Value.int .i64 ((128 ^ 0 : Nat) : Int)) = .int .i64 1)
    clear hadr0 hld hbk hu
    subst hu'
    by_cases hb1 : b.toNat < 128
    ·have hI : ¬ (128 : Int) ≤ (b.toNat : Int) := by omega
     have HGO2 := Lib.hid (show numGo 0 0 r = (1, M) by
      rw [HGOB.out, HSTEP.out, if_pos hb1])
     go_wp2_with (first | (with_reducible refine wpList_loadL HM.out.load rfl _ rfl rfl ?_) | (with_reducible refine wpList_loadL HM.out.err rfl _ rfl rfl ?_) | (with_reducible refine wpList_loadL HL.out rfl _ rfl rfl ?_))
     refine (refNumber_any M _ (by omega)).mono ?_
     rintro x w2 ⟨u2, rfl, hu2, hx2⟩
     have hlu := fun W => bytes_len hu2.slice W
     have HM2 := Lib.hid (HM.out.below hx2)
     have HX2 := Lib.hid hx2
     clear hu2 hx2 hI hb1 hadr
     obtain ⟨n2, hn2⟩ : ∃ n, (encN M).length = n := ⟨_, rfl⟩
     rw [hn2] at hlu
     have HN2 := Lib.hid hn2
     clear hn2
     by_cases hg : n2 = 1 ∧ M ≤ 1099511627776 ∧ M ≤ most
     ·obtain ⟨rfl, hg2, hg3⟩ := hg
      have hlu' : ∀ W, (Builtin.len_ #[23] 3 #[u2]).run Tryz.prog W = .ok (.int .i64 1) W := hlu
      clear hlu
      have hI2 : ¬ (1099511627776 : Int) < (M : Int) := by omega
      have hI3 : ¬ (most : Int) < (M : Int) := by omega
      have HRES := Lib.hid (show getN most r = some (M, r.drop 1) from by rw [getN_go, HGO2.out, if_neg (by rw [HN2.out]; rintro (h | h | h | h) <;> omega)])
      obtain ⟨vy, hsy0, hry, hyc, hy1⟩ := arest_low HM2.out.rest 1 (by omega)
      have hsy : ∀ W, (Instr.sliceAt 23 v (some (.int .i64 1)) none none).run Tryz.prog W = .ok vy W := hsy0
      obtain ⟨w3, hrun, hb3, ho3, hr3⟩ := HM2.out.put (ty := 23) 0 (by omega) vy hyc hy1 (by kernel_rfl)
      have HCU := Lib.hid (show CaV base g w3 vy (r.drop 1) 0 from ⟨hb3, hr3 hry⟩)
      have HON := Lib.hid ((Only.of_below (S := (· = g)) HX2.out).trans ho3 fun _ _ h => h)
      clear hsy0 hry hyc hy1 hb3 ho3 hr3 hg2 hg3
      go_wp2_with (first | (with_reducible refine wpList_loadL HM2.out.load rfl _ rfl rfl ?_) | (refine wpList_store rfl rfl 23 _ _ rfl (.pointer (some ⟨g, 0, none⟩)) _ rfl rfl hrun ?_))
      all_goals first
       | (exfalso; omega)
       | (go_ret
          exact ⟨.inl ⟨M, r.drop 1, vy, HRES.out, rfl, HCU.out⟩, HON.out⟩)
     ·have HRES := Lib.hid (show getN most r = none from by rw [getN_go, HGO2.out, if_pos (by rw [HN2.out]; by_cases h1 : n2 = 1; by_cases h2 : M ≤ 1099511627776; exact .inr (.inr (.inr (by omega))); exact .inr (.inr (.inl (by omega))); exact .inr (.inl (fun h => h1 h.symm)))])
      by_cases hg1 : n2 = 1
      ·subst hg1
       have hlu' : ∀ W, (Builtin.len_ #[23] 3 #[u2]).run Tryz.prog W = .ok (.int .i64 1) W := hlu
       clear hlu
       by_cases hg2 : M ≤ 1099511627776
       ·have hI2 : ¬ (1099511627776 : Int) < (M : Int) := by omega
        have hI3 : (most : Int) < (M : Int) := by omega
        clear hg
        go_wp2_with fail
        all_goals first
         | (exfalso; omega)
         | (refine (afail_any base g v r 0 4 _ HM2.out).mono ?_
            rintro x w9 ⟨⟨rr, rfl⟩, hcu, hon⟩
            have HCU := Lib.hid hcu
            have HON := Lib.hid ((Only.of_below (S := (· = g)) HX2.out).trans hon fun _ _ h => h)
            clear hcu hon
            go_wp2_with fail
            go_ret
            exact ⟨.inr ⟨HRES.out, rfl, 4, by omega, HCU.out⟩, HON.out⟩)
       ·have hI2 : (1099511627776 : Int) < (M : Int) := by omega
        clear hg
        go_wp2_with fail
        all_goals first
         | (exfalso; omega)
         | (refine (afail_any base g v r 0 4 _ HM2.out).mono ?_
            rintro x w9 ⟨⟨rr, rfl⟩, hcu, hon⟩
            have HCU := Lib.hid hcu
            have HON := Lib.hid ((Only.of_below (S := (· = g)) HX2.out).trans hon fun _ _ h => h)
            clear hcu hon
            go_wp2_with fail
            go_ret
            exact ⟨.inr ⟨HRES.out, rfl, 4, by omega, HCU.out⟩, HON.out⟩)
      ·have hq : ((n2 : Int) != 1) = true := by simp [bne_iff_ne]; omega
       clear hg
       go_wp2_with fail
       all_goals first
        | (exfalso; omega)
        | (refine (afail_any base g v r 0 4 _ HM2.out).mono ?_
           rintro x w9 ⟨⟨rr, rfl⟩, hcu, hon⟩
           have HCU := Lib.hid hcu
           have HON := Lib.hid ((Only.of_below (S := (· = g)) HX2.out).trans hon fun _ _ h => h)
           clear hcu hon
           go_wp2_with fail
           go_ret
           exact ⟨.inr ⟨HRES.out, rfl, 4, by omega, HCU.out⟩, HON.out⟩)
    ·have hI : (128 : Int) ≤ (b.toNat : Int) := by omega
     have HGO2 := Lib.hid (show numGo 0 0 r = numGo 1 M (r.drop 1) by
      rw [HGOB.out, HSTEP.out, if_neg hb1])
     have HMN2 := Lib.hid (show M < 128 ^ 1 by have h1 := HMM.out; have h2 := HN.out; simp only [Nat.reducePow] at h1 h2 ⊢; omega)
     clear hb1
     go_wp2_with (first | (with_reducible refine wpList_loadL HM.out.load rfl _ rfl rfl ?_) | (with_reducible refine wpList_loadL HM.out.err rfl _ rfl rfl ?_) | (with_reducible refine wpList_loadL HL.out rfl _ rfl rfl ?_))
     go_roundw
     case rel => exact ⟨1, M, by omega, by omega, by go_num, by go_num, rfl, HGO2.out, HMN2.out, by first | rfl | trivial⟩
     case measure => simp [intOf]
   ·obtain ⟨q, hadr0, hld⟩ := byte_at HM.out.rest.slice 1 b hbk
    have hadr : ∀ W, (Instr.indexAt 23 v (.int .i64 1)).run Tryz.prog W = .ok (.pointer (some q)) W := hadr0
    have HL := Lib.hid hld
    have hsum : (N : Int) + (x : Int) * 128 = (M : Int) := by have h := HMM.out; simp only [Nat.reducePow] at h; omega
    have hMb : M < 16384 := by have h1 := HMM.out; have h2 := HN.out; simp only [Nat.reducePow] at h1 h2; omega
    have hb256 : b.toNat < 256 := b.toNat_lt
    have hlI : (1 : Int) < (r.length : Int) := by omega
    have hu' := hu.trans (rfl : (Value.int .i64 ((128 ^ 1 : Nat) : Int)) = .int .i64 128)
    clear hadr0 hld hbk hu
    subst hu'
    by_cases hb1 : b.toNat < 128
    ·have hI : ¬ (128 : Int) ≤ (b.toNat : Int) := by omega
     have HGO2 := Lib.hid (show numGo 0 0 r = (2, M) by
      rw [HGOB.out, HSTEP.out, if_pos hb1])
     go_wp2_with (first | (with_reducible refine wpList_loadL HM.out.load rfl _ rfl rfl ?_) | (with_reducible refine wpList_loadL HM.out.err rfl _ rfl rfl ?_) | (with_reducible refine wpList_loadL HL.out rfl _ rfl rfl ?_))
     refine (refNumber_any M _ (by omega)).mono ?_
     rintro x w2 ⟨u2, rfl, hu2, hx2⟩
     have hlu := fun W => bytes_len hu2.slice W
     have HM2 := Lib.hid (HM.out.below hx2)
     have HX2 := Lib.hid hx2
     clear hu2 hx2 hI hb1 hadr
     obtain ⟨n2, hn2⟩ : ∃ n, (encN M).length = n := ⟨_, rfl⟩
     rw [hn2] at hlu
     have HN2 := Lib.hid hn2
     clear hn2
     by_cases hg : n2 = 2 ∧ M ≤ 1099511627776 ∧ M ≤ most
     ·obtain ⟨rfl, hg2, hg3⟩ := hg
      have hlu' : ∀ W, (Builtin.len_ #[23] 3 #[u2]).run Tryz.prog W = .ok (.int .i64 2) W := hlu
      clear hlu
      have hI2 : ¬ (1099511627776 : Int) < (M : Int) := by omega
      have hI3 : ¬ (most : Int) < (M : Int) := by omega
      have HRES := Lib.hid (show getN most r = some (M, r.drop 2) from by rw [getN_go, HGO2.out, if_neg (by rw [HN2.out]; rintro (h | h | h | h) <;> omega)])
      obtain ⟨vy, hsy0, hry, hyc, hy1⟩ := arest_low HM2.out.rest 2 (by omega)
      have hsy : ∀ W, (Instr.sliceAt 23 v (some (.int .i64 2)) none none).run Tryz.prog W = .ok vy W := hsy0
      obtain ⟨w3, hrun, hb3, ho3, hr3⟩ := HM2.out.put (ty := 23) 0 (by omega) vy hyc hy1 (by kernel_rfl)
      have HCU := Lib.hid (show CaV base g w3 vy (r.drop 2) 0 from ⟨hb3, hr3 hry⟩)
      have HON := Lib.hid ((Only.of_below (S := (· = g)) HX2.out).trans ho3 fun _ _ h => h)
      clear hsy0 hry hyc hy1 hb3 ho3 hr3 hg2 hg3
      go_wp2_with (first | (with_reducible refine wpList_loadL HM2.out.load rfl _ rfl rfl ?_) | (refine wpList_store rfl rfl 23 _ _ rfl (.pointer (some ⟨g, 0, none⟩)) _ rfl rfl hrun ?_))
      all_goals first
       | (exfalso; omega)
       | (go_ret
          exact ⟨.inl ⟨M, r.drop 2, vy, HRES.out, rfl, HCU.out⟩, HON.out⟩)
     ·have HRES := Lib.hid (show getN most r = none from by rw [getN_go, HGO2.out, if_pos (by rw [HN2.out]; by_cases h1 : n2 = 2; by_cases h2 : M ≤ 1099511627776; exact .inr (.inr (.inr (by omega))); exact .inr (.inr (.inl (by omega))); exact .inr (.inl (fun h => h1 h.symm)))])
      by_cases hg1 : n2 = 2
      ·subst hg1
       have hlu' : ∀ W, (Builtin.len_ #[23] 3 #[u2]).run Tryz.prog W = .ok (.int .i64 2) W := hlu
       clear hlu
       by_cases hg2 : M ≤ 1099511627776
       ·have hI2 : ¬ (1099511627776 : Int) < (M : Int) := by omega
        have hI3 : (most : Int) < (M : Int) := by omega
        clear hg
        go_wp2_with fail
        all_goals first
         | (exfalso; omega)
         | (refine (afail_any base g v r 0 4 _ HM2.out).mono ?_
            rintro x w9 ⟨⟨rr, rfl⟩, hcu, hon⟩
            have HCU := Lib.hid hcu
            have HON := Lib.hid ((Only.of_below (S := (· = g)) HX2.out).trans hon fun _ _ h => h)
            clear hcu hon
            go_wp2_with fail
            go_ret
            exact ⟨.inr ⟨HRES.out, rfl, 4, by omega, HCU.out⟩, HON.out⟩)
       ·have hI2 : (1099511627776 : Int) < (M : Int) := by omega
        clear hg
        go_wp2_with fail
        all_goals first
         | (exfalso; omega)
         | (refine (afail_any base g v r 0 4 _ HM2.out).mono ?_
            rintro x w9 ⟨⟨rr, rfl⟩, hcu, hon⟩
            have HCU := Lib.hid hcu
            have HON := Lib.hid ((Only.of_below (S := (· = g)) HX2.out).trans hon fun _ _ h => h)
            clear hcu hon
            go_wp2_with fail
            go_ret
            exact ⟨.inr ⟨HRES.out, rfl, 4, by omega, HCU.out⟩, HON.out⟩)
      ·have hq : ((n2 : Int) != 2) = true := by simp [bne_iff_ne]; omega
       clear hg
       go_wp2_with fail
       all_goals first
        | (exfalso; omega)
        | (refine (afail_any base g v r 0 4 _ HM2.out).mono ?_
           rintro x w9 ⟨⟨rr, rfl⟩, hcu, hon⟩
           have HCU := Lib.hid hcu
           have HON := Lib.hid ((Only.of_below (S := (· = g)) HX2.out).trans hon fun _ _ h => h)
           clear hcu hon
           go_wp2_with fail
           go_ret
           exact ⟨.inr ⟨HRES.out, rfl, 4, by omega, HCU.out⟩, HON.out⟩)
    ·have hI : (128 : Int) ≤ (b.toNat : Int) := by omega
     have HGO2 := Lib.hid (show numGo 0 0 r = numGo 2 M (r.drop 2) by
      rw [HGOB.out, HSTEP.out, if_neg hb1])
     have HMN2 := Lib.hid (show M < 128 ^ 2 by have h1 := HMM.out; have h2 := HN.out; simp only [Nat.reducePow] at h1 h2 ⊢; omega)
     clear hb1
     go_wp2_with (first | (with_reducible refine wpList_loadL HM.out.load rfl _ rfl rfl ?_) | (with_reducible refine wpList_loadL HM.out.err rfl _ rfl rfl ?_) | (with_reducible refine wpList_loadL HL.out rfl _ rfl rfl ?_))
     go_roundw
     case rel => exact ⟨2, M, by omega, by omega, by go_num, by go_num, rfl, HGO2.out, HMN2.out, by first | rfl | trivial⟩
     case measure => simp [intOf]
   ·obtain ⟨q, hadr0, hld⟩ := byte_at HM.out.rest.slice 2 b hbk
    have hadr : ∀ W, (Instr.indexAt 23 v (.int .i64 2)).run Tryz.prog W = .ok (.pointer (some q)) W := hadr0
    have HL := Lib.hid hld
    have hsum : (N : Int) + (x : Int) * 16384 = (M : Int) := by have h := HMM.out; simp only [Nat.reducePow] at h; omega
    have hMb : M < 2097152 := by have h1 := HMM.out; have h2 := HN.out; simp only [Nat.reducePow] at h1 h2; omega
    have hb256 : b.toNat < 256 := b.toNat_lt
    have hlI : (2 : Int) < (r.length : Int) := by omega
    have hu' := hu.trans (rfl : (Value.int .i64 ((128 ^ 2 : Nat) : Int)) = .int .i64 16384)
    clear hadr0 hld hbk hu
    subst hu'
    by_cases hb1 : b.toNat < 128
    ·have hI : ¬ (128 : Int) ≤ (b.toNat : Int) := by omega
     have HGO2 := Lib.hid (show numGo 0 0 r = (3, M) by
      rw [HGOB.out, HSTEP.out, if_pos hb1])
     go_wp2_with (first | (with_reducible refine wpList_loadL HM.out.load rfl _ rfl rfl ?_) | (with_reducible refine wpList_loadL HM.out.err rfl _ rfl rfl ?_) | (with_reducible refine wpList_loadL HL.out rfl _ rfl rfl ?_))
     refine (refNumber_any M _ (by omega)).mono ?_
     rintro x w2 ⟨u2, rfl, hu2, hx2⟩
     have hlu := fun W => bytes_len hu2.slice W
     have HM2 := Lib.hid (HM.out.below hx2)
     have HX2 := Lib.hid hx2
     clear hu2 hx2 hI hb1 hadr
     obtain ⟨n2, hn2⟩ : ∃ n, (encN M).length = n := ⟨_, rfl⟩
     rw [hn2] at hlu
     have HN2 := Lib.hid hn2
     clear hn2
     by_cases hg : n2 = 3 ∧ M ≤ 1099511627776 ∧ M ≤ most
     ·obtain ⟨rfl, hg2, hg3⟩ := hg
      have hlu' : ∀ W, (Builtin.len_ #[23] 3 #[u2]).run Tryz.prog W = .ok (.int .i64 3) W := hlu
      clear hlu
      have hI2 : ¬ (1099511627776 : Int) < (M : Int) := by omega
      have hI3 : ¬ (most : Int) < (M : Int) := by omega
      have HRES := Lib.hid (show getN most r = some (M, r.drop 3) from by rw [getN_go, HGO2.out, if_neg (by rw [HN2.out]; rintro (h | h | h | h) <;> omega)])
      obtain ⟨vy, hsy0, hry, hyc, hy1⟩ := arest_low HM2.out.rest 3 (by omega)
      have hsy : ∀ W, (Instr.sliceAt 23 v (some (.int .i64 3)) none none).run Tryz.prog W = .ok vy W := hsy0
      obtain ⟨w3, hrun, hb3, ho3, hr3⟩ := HM2.out.put (ty := 23) 0 (by omega) vy hyc hy1 (by kernel_rfl)
      have HCU := Lib.hid (show CaV base g w3 vy (r.drop 3) 0 from ⟨hb3, hr3 hry⟩)
      have HON := Lib.hid ((Only.of_below (S := (· = g)) HX2.out).trans ho3 fun _ _ h => h)
      clear hsy0 hry hyc hy1 hb3 ho3 hr3 hg2 hg3
      go_wp2_with (first | (with_reducible refine wpList_loadL HM2.out.load rfl _ rfl rfl ?_) | (refine wpList_store rfl rfl 23 _ _ rfl (.pointer (some ⟨g, 0, none⟩)) _ rfl rfl hrun ?_))
      all_goals first
       | (exfalso; omega)
       | (go_ret
          exact ⟨.inl ⟨M, r.drop 3, vy, HRES.out, rfl, HCU.out⟩, HON.out⟩)
     ·have HRES := Lib.hid (show getN most r = none from by rw [getN_go, HGO2.out, if_pos (by rw [HN2.out]; by_cases h1 : n2 = 3; by_cases h2 : M ≤ 1099511627776; exact .inr (.inr (.inr (by omega))); exact .inr (.inr (.inl (by omega))); exact .inr (.inl (fun h => h1 h.symm)))])
      by_cases hg1 : n2 = 3
      ·subst hg1
       have hlu' : ∀ W, (Builtin.len_ #[23] 3 #[u2]).run Tryz.prog W = .ok (.int .i64 3) W := hlu
       clear hlu
       by_cases hg2 : M ≤ 1099511627776
       ·have hI2 : ¬ (1099511627776 : Int) < (M : Int) := by omega
        have hI3 : (most : Int) < (M : Int) := by omega
        clear hg
        go_wp2_with fail
        all_goals first
         | (exfalso; omega)
         | (refine (afail_any base g v r 0 4 _ HM2.out).mono ?_
            rintro x w9 ⟨⟨rr, rfl⟩, hcu, hon⟩
            have HCU := Lib.hid hcu
            have HON := Lib.hid ((Only.of_below (S := (· = g)) HX2.out).trans hon fun _ _ h => h)
            clear hcu hon
            go_wp2_with fail
            go_ret
            exact ⟨.inr ⟨HRES.out, rfl, 4, by omega, HCU.out⟩, HON.out⟩)
       ·have hI2 : (1099511627776 : Int) < (M : Int) := by omega
        clear hg
        go_wp2_with fail
        all_goals first
         | (exfalso; omega)
         | (refine (afail_any base g v r 0 4 _ HM2.out).mono ?_
            rintro x w9 ⟨⟨rr, rfl⟩, hcu, hon⟩
            have HCU := Lib.hid hcu
            have HON := Lib.hid ((Only.of_below (S := (· = g)) HX2.out).trans hon fun _ _ h => h)
            clear hcu hon
            go_wp2_with fail
            go_ret
            exact ⟨.inr ⟨HRES.out, rfl, 4, by omega, HCU.out⟩, HON.out⟩)
      ·have hq : ((n2 : Int) != 3) = true := by simp [bne_iff_ne]; omega
       clear hg
       go_wp2_with fail
       all_goals first
        | (exfalso; omega)
        | (refine (afail_any base g v r 0 4 _ HM2.out).mono ?_
           rintro x w9 ⟨⟨rr, rfl⟩, hcu, hon⟩
           have HCU := Lib.hid hcu
           have HON := Lib.hid ((Only.of_below (S := (· = g)) HX2.out).trans hon fun _ _ h => h)
           clear hcu hon
           go_wp2_with fail
           go_ret
           exact ⟨.inr ⟨HRES.out, rfl, 4, by omega, HCU.out⟩, HON.out⟩)
    ·have hI : (128 : Int) ≤ (b.toNat : Int) := by omega
     have HGO2 := Lib.hid (show numGo 0 0 r = numGo 3 M (r.drop 3) by
      rw [HGOB.out, HSTEP.out, if_neg hb1])
     have HMN2 := Lib.hid (show M < 128 ^ 3 by have h1 := HMM.out; have h2 := HN.out; simp only [Nat.reducePow] at h1 h2 ⊢; omega)
     clear hb1
     go_wp2_with (first | (with_reducible refine wpList_loadL HM.out.load rfl _ rfl rfl ?_) | (with_reducible refine wpList_loadL HM.out.err rfl _ rfl rfl ?_) | (with_reducible refine wpList_loadL HL.out rfl _ rfl rfl ?_))
     go_roundw
     case rel => exact ⟨3, M, by omega, by omega, by go_num, by go_num, rfl, HGO2.out, HMN2.out, by first | rfl | trivial⟩
     case measure => simp [intOf]
   ·obtain ⟨q, hadr0, hld⟩ := byte_at HM.out.rest.slice 3 b hbk
    have hadr : ∀ W, (Instr.indexAt 23 v (.int .i64 3)).run Tryz.prog W = .ok (.pointer (some q)) W := hadr0
    have HL := Lib.hid hld
    have hsum : (N : Int) + (x : Int) * 2097152 = (M : Int) := by have h := HMM.out; simp only [Nat.reducePow] at h; omega
    have hMb : M < 268435456 := by have h1 := HMM.out; have h2 := HN.out; simp only [Nat.reducePow] at h1 h2; omega
    have hb256 : b.toNat < 256 := b.toNat_lt
    have hlI : (3 : Int) < (r.length : Int) := by omega
    have hu' := hu.trans (rfl : (Value.int .i64 ((128 ^ 3 : Nat) : Int)) = .int .i64 2097152)
    clear hadr0 hld hbk hu
    subst hu'
    by_cases hb1 : b.toNat < 128
    ·have hI : ¬ (128 : Int) ≤ (b.toNat : Int) := by omega
     have HGO2 := Lib.hid (show numGo 0 0 r = (4, M) by
      rw [HGOB.out, HSTEP.out, if_pos hb1])
     go_wp2_with (first | (with_reducible refine wpList_loadL HM.out.load rfl _ rfl rfl ?_) | (with_reducible refine wpList_loadL HM.out.err rfl _ rfl rfl ?_) | (with_reducible refine wpList_loadL HL.out rfl _ rfl rfl ?_))
     refine (refNumber_any M _ (by omega)).mono ?_
     rintro x w2 ⟨u2, rfl, hu2, hx2⟩
     have hlu := fun W => bytes_len hu2.slice W
     have HM2 := Lib.hid (HM.out.below hx2)
     have HX2 := Lib.hid hx2
     clear hu2 hx2 hI hb1 hadr
     obtain ⟨n2, hn2⟩ : ∃ n, (encN M).length = n := ⟨_, rfl⟩
     rw [hn2] at hlu
     have HN2 := Lib.hid hn2
     clear hn2
     by_cases hg : n2 = 4 ∧ M ≤ 1099511627776 ∧ M ≤ most
     ·obtain ⟨rfl, hg2, hg3⟩ := hg
      have hlu' : ∀ W, (Builtin.len_ #[23] 3 #[u2]).run Tryz.prog W = .ok (.int .i64 4) W := hlu
      clear hlu
      have hI2 : ¬ (1099511627776 : Int) < (M : Int) := by omega
      have hI3 : ¬ (most : Int) < (M : Int) := by omega
      have HRES := Lib.hid (show getN most r = some (M, r.drop 4) from by rw [getN_go, HGO2.out, if_neg (by rw [HN2.out]; rintro (h | h | h | h) <;> omega)])
      obtain ⟨vy, hsy0, hry, hyc, hy1⟩ := arest_low HM2.out.rest 4 (by omega)
      have hsy : ∀ W, (Instr.sliceAt 23 v (some (.int .i64 4)) none none).run Tryz.prog W = .ok vy W := hsy0
      obtain ⟨w3, hrun, hb3, ho3, hr3⟩ := HM2.out.put (ty := 23) 0 (by omega) vy hyc hy1 (by kernel_rfl)
      have HCU := Lib.hid (show CaV base g w3 vy (r.drop 4) 0 from ⟨hb3, hr3 hry⟩)
      have HON := Lib.hid ((Only.of_below (S := (· = g)) HX2.out).trans ho3 fun _ _ h => h)
      clear hsy0 hry hyc hy1 hb3 ho3 hr3 hg2 hg3
      go_wp2_with (first | (with_reducible refine wpList_loadL HM2.out.load rfl _ rfl rfl ?_) | (refine wpList_store rfl rfl 23 _ _ rfl (.pointer (some ⟨g, 0, none⟩)) _ rfl rfl hrun ?_))
      all_goals first
       | (exfalso; omega)
       | (go_ret
          exact ⟨.inl ⟨M, r.drop 4, vy, HRES.out, rfl, HCU.out⟩, HON.out⟩)
     ·have HRES := Lib.hid (show getN most r = none from by rw [getN_go, HGO2.out, if_pos (by rw [HN2.out]; by_cases h1 : n2 = 4; by_cases h2 : M ≤ 1099511627776; exact .inr (.inr (.inr (by omega))); exact .inr (.inr (.inl (by omega))); exact .inr (.inl (fun h => h1 h.symm)))])
      by_cases hg1 : n2 = 4
      ·subst hg1
       have hlu' : ∀ W, (Builtin.len_ #[23] 3 #[u2]).run Tryz.prog W = .ok (.int .i64 4) W := hlu
       clear hlu
       by_cases hg2 : M ≤ 1099511627776
       ·have hI2 : ¬ (1099511627776 : Int) < (M : Int) := by omega
        have hI3 : (most : Int) < (M : Int) := by omega
        clear hg
        go_wp2_with fail
        all_goals first
         | (exfalso; omega)
         | (refine (afail_any base g v r 0 4 _ HM2.out).mono ?_
            rintro x w9 ⟨⟨rr, rfl⟩, hcu, hon⟩
            have HCU := Lib.hid hcu
            have HON := Lib.hid ((Only.of_below (S := (· = g)) HX2.out).trans hon fun _ _ h => h)
            clear hcu hon
            go_wp2_with fail
            go_ret
            exact ⟨.inr ⟨HRES.out, rfl, 4, by omega, HCU.out⟩, HON.out⟩)
       ·have hI2 : (1099511627776 : Int) < (M : Int) := by omega
        clear hg
        go_wp2_with fail
        all_goals first
         | (exfalso; omega)
         | (refine (afail_any base g v r 0 4 _ HM2.out).mono ?_
            rintro x w9 ⟨⟨rr, rfl⟩, hcu, hon⟩
            have HCU := Lib.hid hcu
            have HON := Lib.hid ((Only.of_below (S := (· = g)) HX2.out).trans hon fun _ _ h => h)
            clear hcu hon
            go_wp2_with fail
            go_ret
            exact ⟨.inr ⟨HRES.out, rfl, 4, by omega, HCU.out⟩, HON.out⟩)
      ·have hq : ((n2 : Int) != 4) = true := by simp [bne_iff_ne]; omega
       clear hg
       go_wp2_with fail
       all_goals first
        | (exfalso; omega)
        | (refine (afail_any base g v r 0 4 _ HM2.out).mono ?_
           rintro x w9 ⟨⟨rr, rfl⟩, hcu, hon⟩
           have HCU := Lib.hid hcu
           have HON := Lib.hid ((Only.of_below (S := (· = g)) HX2.out).trans hon fun _ _ h => h)
           clear hcu hon
           go_wp2_with fail
           go_ret
           exact ⟨.inr ⟨HRES.out, rfl, 4, by omega, HCU.out⟩, HON.out⟩)
    ·have hI : (128 : Int) ≤ (b.toNat : Int) := by omega
     have HGO2 := Lib.hid (show numGo 0 0 r = numGo 4 M (r.drop 4) by
      rw [HGOB.out, HSTEP.out, if_neg hb1])
     have HMN2 := Lib.hid (show M < 128 ^ 4 by have h1 := HMM.out; have h2 := HN.out; simp only [Nat.reducePow] at h1 h2 ⊢; omega)
     clear hb1
     go_wp2_with (first | (with_reducible refine wpList_loadL HM.out.load rfl _ rfl rfl ?_) | (with_reducible refine wpList_loadL HM.out.err rfl _ rfl rfl ?_) | (with_reducible refine wpList_loadL HL.out rfl _ rfl rfl ?_))
     go_roundw
     case rel => exact ⟨4, M, by omega, by omega, by go_num, by go_num, rfl, HGO2.out, HMN2.out, by first | rfl | trivial⟩
     case measure => simp [intOf]
   ·obtain ⟨q, hadr0, hld⟩ := byte_at HM.out.rest.slice 4 b hbk
    have hadr : ∀ W, (Instr.indexAt 23 v (.int .i64 4)).run Tryz.prog W = .ok (.pointer (some q)) W := hadr0
    have HL := Lib.hid hld
    have hsum : (N : Int) + (x : Int) * 268435456 = (M : Int) := by have h := HMM.out; simp only [Nat.reducePow] at h; omega
    have hMb : M < 34359738368 := by have h1 := HMM.out; have h2 := HN.out; simp only [Nat.reducePow] at h1 h2; omega
    have hb256 : b.toNat < 256 := b.toNat_lt
    have hlI : (4 : Int) < (r.length : Int) := by omega
    have hu' := hu.trans (rfl : (Value.int .i64 ((128 ^ 4 : Nat) : Int)) = .int .i64 268435456)
    clear hadr0 hld hbk hu
    subst hu'
    by_cases hb1 : b.toNat < 128
    ·have hI : ¬ (128 : Int) ≤ (b.toNat : Int) := by omega
     have HGO2 := Lib.hid (show numGo 0 0 r = (5, M) by
      rw [HGOB.out, HSTEP.out, if_pos hb1])
     go_wp2_with (first | (with_reducible refine wpList_loadL HM.out.load rfl _ rfl rfl ?_) | (with_reducible refine wpList_loadL HM.out.err rfl _ rfl rfl ?_) | (with_reducible refine wpList_loadL HL.out rfl _ rfl rfl ?_))
     refine (refNumber_any M _ (by omega)).mono ?_
     rintro x w2 ⟨u2, rfl, hu2, hx2⟩
     have hlu := fun W => bytes_len hu2.slice W
     have HM2 := Lib.hid (HM.out.below hx2)
     have HX2 := Lib.hid hx2
     clear hu2 hx2 hI hb1 hadr
     obtain ⟨n2, hn2⟩ : ∃ n, (encN M).length = n := ⟨_, rfl⟩
     rw [hn2] at hlu
     have HN2 := Lib.hid hn2
     clear hn2
     by_cases hg : n2 = 5 ∧ M ≤ 1099511627776 ∧ M ≤ most
     ·obtain ⟨rfl, hg2, hg3⟩ := hg
      have hlu' : ∀ W, (Builtin.len_ #[23] 3 #[u2]).run Tryz.prog W = .ok (.int .i64 5) W := hlu
      clear hlu
      have hI2 : ¬ (1099511627776 : Int) < (M : Int) := by omega
      have hI3 : ¬ (most : Int) < (M : Int) := by omega
      have HRES := Lib.hid (show getN most r = some (M, r.drop 5) from by rw [getN_go, HGO2.out, if_neg (by rw [HN2.out]; rintro (h | h | h | h) <;> omega)])
      obtain ⟨vy, hsy0, hry, hyc, hy1⟩ := arest_low HM2.out.rest 5 (by omega)
      have hsy : ∀ W, (Instr.sliceAt 23 v (some (.int .i64 5)) none none).run Tryz.prog W = .ok vy W := hsy0
      obtain ⟨w3, hrun, hb3, ho3, hr3⟩ := HM2.out.put (ty := 23) 0 (by omega) vy hyc hy1 (by kernel_rfl)
      have HCU := Lib.hid (show CaV base g w3 vy (r.drop 5) 0 from ⟨hb3, hr3 hry⟩)
      have HON := Lib.hid ((Only.of_below (S := (· = g)) HX2.out).trans ho3 fun _ _ h => h)
      clear hsy0 hry hyc hy1 hb3 ho3 hr3 hg2 hg3
      go_wp2_with (first | (with_reducible refine wpList_loadL HM2.out.load rfl _ rfl rfl ?_) | (refine wpList_store rfl rfl 23 _ _ rfl (.pointer (some ⟨g, 0, none⟩)) _ rfl rfl hrun ?_))
      all_goals first
       | (exfalso; omega)
       | (go_ret
          exact ⟨.inl ⟨M, r.drop 5, vy, HRES.out, rfl, HCU.out⟩, HON.out⟩)
     ·have HRES := Lib.hid (show getN most r = none from by rw [getN_go, HGO2.out, if_pos (by rw [HN2.out]; by_cases h1 : n2 = 5; by_cases h2 : M ≤ 1099511627776; exact .inr (.inr (.inr (by omega))); exact .inr (.inr (.inl (by omega))); exact .inr (.inl (fun h => h1 h.symm)))])
      by_cases hg1 : n2 = 5
      ·subst hg1
       have hlu' : ∀ W, (Builtin.len_ #[23] 3 #[u2]).run Tryz.prog W = .ok (.int .i64 5) W := hlu
       clear hlu
       by_cases hg2 : M ≤ 1099511627776
       ·have hI2 : ¬ (1099511627776 : Int) < (M : Int) := by omega
        have hI3 : (most : Int) < (M : Int) := by omega
        clear hg
        go_wp2_with fail
        all_goals first
         | (exfalso; omega)
         | (refine (afail_any base g v r 0 4 _ HM2.out).mono ?_
            rintro x w9 ⟨⟨rr, rfl⟩, hcu, hon⟩
            have HCU := Lib.hid hcu
            have HON := Lib.hid ((Only.of_below (S := (· = g)) HX2.out).trans hon fun _ _ h => h)
            clear hcu hon
            go_wp2_with fail
            go_ret
            exact ⟨.inr ⟨HRES.out, rfl, 4, by omega, HCU.out⟩, HON.out⟩)
       ·have hI2 : (1099511627776 : Int) < (M : Int) := by omega
        clear hg
        go_wp2_with fail
        all_goals first
         | (exfalso; omega)
         | (refine (afail_any base g v r 0 4 _ HM2.out).mono ?_
            rintro x w9 ⟨⟨rr, rfl⟩, hcu, hon⟩
            have HCU := Lib.hid hcu
            have HON := Lib.hid ((Only.of_below (S := (· = g)) HX2.out).trans hon fun _ _ h => h)
            clear hcu hon
            go_wp2_with fail
            go_ret
            exact ⟨.inr ⟨HRES.out, rfl, 4, by omega, HCU.out⟩, HON.out⟩)
      ·have hq : ((n2 : Int) != 5) = true := by simp [bne_iff_ne]; omega
       clear hg
       go_wp2_with fail
       all_goals first
        | (exfalso; omega)
        | (refine (afail_any base g v r 0 4 _ HM2.out).mono ?_
           rintro x w9 ⟨⟨rr, rfl⟩, hcu, hon⟩
           have HCU := Lib.hid hcu
           have HON := Lib.hid ((Only.of_below (S := (· = g)) HX2.out).trans hon fun _ _ h => h)
           clear hcu hon
           go_wp2_with fail
           go_ret
           exact ⟨.inr ⟨HRES.out, rfl, 4, by omega, HCU.out⟩, HON.out⟩)
    ·have hI : (128 : Int) ≤ (b.toNat : Int) := by omega
     have HGO2 := Lib.hid (show numGo 0 0 r = numGo 5 M (r.drop 5) by
      rw [HGOB.out, HSTEP.out, if_neg hb1])
     have HMN2 := Lib.hid (show M < 128 ^ 5 by have h1 := HMM.out; have h2 := HN.out; simp only [Nat.reducePow] at h1 h2 ⊢; omega)
     clear hb1
     go_wp2_with (first | (with_reducible refine wpList_loadL HM.out.load rfl _ rfl rfl ?_) | (with_reducible refine wpList_loadL HM.out.err rfl _ rfl rfl ?_) | (with_reducible refine wpList_loadL HL.out rfl _ rfl rfl ?_))
     go_roundw
     case rel => exact ⟨5, M, by omega, by omega, by go_num, by go_num, rfl, HGO2.out, HMN2.out, by first | rfl | trivial⟩
     case measure => simp [intOf]
   ·obtain ⟨q, hadr0, hld⟩ := byte_at HM.out.rest.slice 5 b hbk
    have hadr : ∀ W, (Instr.indexAt 23 v (.int .i64 5)).run Tryz.prog W = .ok (.pointer (some q)) W := hadr0
    have HL := Lib.hid hld
    have hsum : (N : Int) + (x : Int) * 34359738368 = (M : Int) := by have h := HMM.out; simp only [Nat.reducePow] at h; omega
    have hMb : M < 4398046511104 := by have h1 := HMM.out; have h2 := HN.out; simp only [Nat.reducePow] at h1 h2; omega
    have hb256 : b.toNat < 256 := b.toNat_lt
    have hlI : (5 : Int) < (r.length : Int) := by omega
    have hu' := hu.trans (rfl : (Value.int .i64 ((128 ^ 5 : Nat) : Int)) = .int .i64 34359738368)
    clear hadr0 hld hbk hu
    subst hu'
    by_cases hb1 : b.toNat < 128
    ·have hI : ¬ (128 : Int) ≤ (b.toNat : Int) := by omega
     have HGO2 := Lib.hid (show numGo 0 0 r = (6, M) by
      rw [HGOB.out, HSTEP.out, if_pos hb1])
     go_wp2_with (first | (with_reducible refine wpList_loadL HM.out.load rfl _ rfl rfl ?_) | (with_reducible refine wpList_loadL HM.out.err rfl _ rfl rfl ?_) | (with_reducible refine wpList_loadL HL.out rfl _ rfl rfl ?_))
     refine (refNumber_any M _ (by omega)).mono ?_
     rintro x w2 ⟨u2, rfl, hu2, hx2⟩
     have hlu := fun W => bytes_len hu2.slice W
     have HM2 := Lib.hid (HM.out.below hx2)
     have HX2 := Lib.hid hx2
     clear hu2 hx2 hI hb1 hadr
     obtain ⟨n2, hn2⟩ : ∃ n, (encN M).length = n := ⟨_, rfl⟩
     rw [hn2] at hlu
     have HN2 := Lib.hid hn2
     clear hn2
     by_cases hg : n2 = 6 ∧ M ≤ 1099511627776 ∧ M ≤ most
     ·obtain ⟨rfl, hg2, hg3⟩ := hg
      have hlu' : ∀ W, (Builtin.len_ #[23] 3 #[u2]).run Tryz.prog W = .ok (.int .i64 6) W := hlu
      clear hlu
      have hI2 : ¬ (1099511627776 : Int) < (M : Int) := by omega
      have hI3 : ¬ (most : Int) < (M : Int) := by omega
      have HRES := Lib.hid (show getN most r = some (M, r.drop 6) from by rw [getN_go, HGO2.out, if_neg (by rw [HN2.out]; rintro (h | h | h | h) <;> omega)])
      obtain ⟨vy, hsy0, hry, hyc, hy1⟩ := arest_low HM2.out.rest 6 (by omega)
      have hsy : ∀ W, (Instr.sliceAt 23 v (some (.int .i64 6)) none none).run Tryz.prog W = .ok vy W := hsy0
      obtain ⟨w3, hrun, hb3, ho3, hr3⟩ := HM2.out.put (ty := 23) 0 (by omega) vy hyc hy1 (by kernel_rfl)
      have HCU := Lib.hid (show CaV base g w3 vy (r.drop 6) 0 from ⟨hb3, hr3 hry⟩)
      have HON := Lib.hid ((Only.of_below (S := (· = g)) HX2.out).trans ho3 fun _ _ h => h)
      clear hsy0 hry hyc hy1 hb3 ho3 hr3 hg2 hg3
      go_wp2_with (first | (with_reducible refine wpList_loadL HM2.out.load rfl _ rfl rfl ?_) | (refine wpList_store rfl rfl 23 _ _ rfl (.pointer (some ⟨g, 0, none⟩)) _ rfl rfl hrun ?_))
      all_goals first
       | (exfalso; omega)
       | (go_ret
          exact ⟨.inl ⟨M, r.drop 6, vy, HRES.out, rfl, HCU.out⟩, HON.out⟩)
     ·have HRES := Lib.hid (show getN most r = none from by rw [getN_go, HGO2.out, if_pos (by rw [HN2.out]; by_cases h1 : n2 = 6; by_cases h2 : M ≤ 1099511627776; exact .inr (.inr (.inr (by omega))); exact .inr (.inr (.inl (by omega))); exact .inr (.inl (fun h => h1 h.symm)))])
      by_cases hg1 : n2 = 6
      ·subst hg1
       have hlu' : ∀ W, (Builtin.len_ #[23] 3 #[u2]).run Tryz.prog W = .ok (.int .i64 6) W := hlu
       clear hlu
       by_cases hg2 : M ≤ 1099511627776
       ·have hI2 : ¬ (1099511627776 : Int) < (M : Int) := by omega
        have hI3 : (most : Int) < (M : Int) := by omega
        clear hg
        go_wp2_with fail
        all_goals first
         | (exfalso; omega)
         | (refine (afail_any base g v r 0 4 _ HM2.out).mono ?_
            rintro x w9 ⟨⟨rr, rfl⟩, hcu, hon⟩
            have HCU := Lib.hid hcu
            have HON := Lib.hid ((Only.of_below (S := (· = g)) HX2.out).trans hon fun _ _ h => h)
            clear hcu hon
            go_wp2_with fail
            go_ret
            exact ⟨.inr ⟨HRES.out, rfl, 4, by omega, HCU.out⟩, HON.out⟩)
       ·have hI2 : (1099511627776 : Int) < (M : Int) := by omega
        clear hg
        go_wp2_with fail
        all_goals first
         | (exfalso; omega)
         | (refine (afail_any base g v r 0 4 _ HM2.out).mono ?_
            rintro x w9 ⟨⟨rr, rfl⟩, hcu, hon⟩
            have HCU := Lib.hid hcu
            have HON := Lib.hid ((Only.of_below (S := (· = g)) HX2.out).trans hon fun _ _ h => h)
            clear hcu hon
            go_wp2_with fail
            go_ret
            exact ⟨.inr ⟨HRES.out, rfl, 4, by omega, HCU.out⟩, HON.out⟩)
      ·have hq : ((n2 : Int) != 6) = true := by simp [bne_iff_ne]; omega
       clear hg
       go_wp2_with fail
       all_goals first
        | (exfalso; omega)
        | (refine (afail_any base g v r 0 4 _ HM2.out).mono ?_
           rintro x w9 ⟨⟨rr, rfl⟩, hcu, hon⟩
           have HCU := Lib.hid hcu
           have HON := Lib.hid ((Only.of_below (S := (· = g)) HX2.out).trans hon fun _ _ h => h)
           clear hcu hon
           go_wp2_with fail
           go_ret
           exact ⟨.inr ⟨HRES.out, rfl, 4, by omega, HCU.out⟩, HON.out⟩)
    ·have hI : (128 : Int) ≤ (b.toNat : Int) := by omega
     have HGO2 := Lib.hid (show numGo 0 0 r = numGo 6 M (r.drop 6) by
      rw [HGOB.out, HSTEP.out, if_neg hb1])
     have HMN2 := Lib.hid (show M < 128 ^ 6 by have h1 := HMM.out; have h2 := HN.out; simp only [Nat.reducePow] at h1 h2 ⊢; omega)
     clear hb1
     go_wp2_with (first | (with_reducible refine wpList_loadL HM.out.load rfl _ rfl rfl ?_) | (with_reducible refine wpList_loadL HM.out.err rfl _ rfl rfl ?_) | (with_reducible refine wpList_loadL HL.out rfl _ rfl rfl ?_))
     go_roundw
     case rel => exact ⟨6, M, by omega, by omega, by go_num, by go_num, rfl, HGO2.out, HMN2.out, by first | rfl | trivial⟩
     case measure => simp [intOf]
  ·have HRES := Lib.hid (show getN most r = none from by
    rw [getN_go, HGO.out]
    by_cases h6 : k < 6
    ·rw [List.drop_eq_nil_of_le (by omega)]
     exact if_pos (.inl rfl)
    ·obtain rfl : k = 6 := by omega
     have : (numGo 6 N (r.drop 6)).1 = 0 := by cases r.drop 6 <;> simp [numGo]
     rw [if_pos (.inl this)])
   by_cases h6 : k < 6
   ·obtain rfl : k = r.length := by omega
    have hlI : ((r.length : Int) < 6) := by omega
    clear hlt hN HGO hu
    go_wp2_with (first | (with_reducible refine wpList_loadL HM.out.load rfl _ rfl rfl ?_) | (with_reducible refine wpList_loadL HM.out.err rfl _ rfl rfl ?_))
    refine (afail_any base g v r 0 4 _ HM.out).mono ?_
    rintro x w9 ⟨⟨rr, rfl⟩, hcu, hon⟩
    have HCU := Lib.hid hcu
    have HON := Lib.hid hon
    clear hcu hon
    go_wp2_with fail
    go_ret
    exact ⟨.inr ⟨HRES.out, rfl, 4, by omega, HCU.out⟩, HON.out⟩
   ·obtain rfl : k = 6 := by omega
    clear hlt hN HGO hu h6
    go_wp2_with (first | (with_reducible refine wpList_loadL HM.out.load rfl _ rfl rfl ?_) | (with_reducible refine wpList_loadL HM.out.err rfl _ rfl rfl ?_))
    refine (afail_any base g v r 0 4 _ HM.out).mono ?_
    rintro x w9 ⟨⟨rr, rfl⟩, hcu, hon⟩
    have HCU := Lib.hid hcu
    have HON := Lib.hid hon
    clear hcu hon
    go_wp2_with fail
    go_ret
    exact ⟨.inr ⟨HRES.out, rfl, 4, by omega, HCU.out⟩, HON.out⟩
end Go.Proofs.YtfiadgdinhmgbaaGreatDoor
