/- spenceref01.Cursor over the bytes of an argument: fail, End, Raw. (Several texts in one.) -/
import Derived.Test.YtdedpcdbnpnbeaaDoorPBC
/-! spenceref01.Cursor as a state: contracts without cases; Text. -/
namespace Go.Proofs.YtdedpcdbnpnbeaaDoor
open Go.RowKit Pl Go.Agg
set_option maxRecDepth 100000 in
set_option maxHeartbeats 1000000 in
theorem rcnum_any (base g most : Nat) (s : Option (List UInt8)) (w : World) (hl : stLen s ≤ 16777216) (hmo : most ≤ 1099511627776) (h : CrS base g w s) :
    Calls Tryd.prog 39 #[.pointer (some ⟨g, 0, none⟩), .int .i64 (most : Int)] w fun x w' => x = .returned (.int .i64 ((sNum most s).1 : Int)) ∧ CrS base g w' (sNum most s).2 ∧ Only (· = g) w w' := by
  obtain ⟨v, r, e, hv, hbad, rfl⟩ := h
  by_cases h0 : e = 0
  · subst h0
    refine (rcnum_good base g most v r w (by simpa [stLen] using hl) hmo hv).mono ?_
    rintro x w' ⟨hc, ho⟩
    rcases hc with ⟨n, y, v', hg, rfl, hcu⟩ | ⟨hg, rfl, hcu⟩
    · simp only [if_true, sNum, hg]
      exact ⟨trivial, CrS.good hcu, ho⟩
    · simp only [if_true, sNum, hg]
      exact ⟨rfl, CrS.bad hcu, ho⟩
  · obtain ⟨rfl, rfl⟩ := hbad h0
    simp only [if_neg h0, sNum]
    have hq : ((e : Int) == 0) = false := by simp [h0]
    have H0 := Lib.hid h0
    have HM := Lib.hid hv
    have hlr := fun W => bytes_len hv.rest.slice W
    clear h0 hv hbad hl
    go_enter Tryd.func39, Tryd.ntmps39
    go_wp2_with fail
    go_loopw [5, 6, 7] (fun nn u i wr => i = .int .i64 0 ∧ wr = w) (fun _ _ i _ => 0)
    case atStart => exact ⟨rfl, rfl⟩
    case round =>
      obtain ⟨rfl, rfl⟩ := hrel
      go_wp2_with (first | (with_reducible refine Agg.wpList_loadL HM.out.load rfl _ rfl rfl ?_) | (with_reducible refine Agg.wpList_loadL HM.out.err rfl _ rfl rfl ?_))
      refine (rfail_any base g (.slice none 0 0) [] e 4 _ HM.out).mono ?_
      rintro x w9 ⟨⟨rr, rfl⟩, hcu, hon⟩
      rw [if_neg H0.out] at hcu
      have HCU := Lib.hid hcu
      have HON := Lib.hid hon
      clear hcu hon
      go_wp2_with fail
      go_ret
      exact ⟨rfl, CrS.bad ⟨e, H0.out, HCU.out⟩, HON.out⟩
set_option maxRecDepth 100000 in
set_option maxHeartbeats 1000000 in
theorem rcraw_any (base g many : Nat) (s : Option (List UInt8)) (w : World) (hl : stLen s ≤ 16777216) (hmo : many ≤ 1099511627776) (h : CrS base g w s) :
    Calls Tryd.prog 64 #[.pointer (some ⟨g, 0, none⟩), .int .i64 (many : Int)] w fun x w' => ∃ u, x = .returned u ∧ Own EB w.heap.size w' u (sRaw many s).1 ∧ CrS base g w' (sRaw many s).2 ∧ Only (· = g) w w' := by
  obtain ⟨v, r, e, hv, hbad, rfl⟩ := h
  by_cases h0 : e = 0
  · subst h0
    by_cases hle : many ≤ r.length
    · refine (rcraw_good base g many v r w (by simpa [stLen] using hl) hle hv).mono ?_
      rintro x w' ⟨u, v', rfl, hu, hcu, ho⟩
      simp only [if_true, sRaw, if_pos hle]
      exact ⟨u, rfl, hu, CrS.good hcu, ho⟩
    · simp only [if_true, sRaw, if_neg hle]
      have hI : (r.length : Int) < (many : Int) := by omega
      have hI0 : ¬ (many : Int) < 0 := by omega
      have HM := Lib.hid hv
      have hlr := fun W => bytes_len hv.rest.slice W
      clear hv hbad hl hle
      go_enter Tryd.func64, Tryd.ntmps64
      go_wp2_with (first | (with_reducible refine Agg.wpList_loadL HM.out.load rfl _ rfl rfl ?_) | (with_reducible refine Agg.wpList_loadL HM.out.err rfl _ rfl rfl ?_))
      refine (rfail_any base g v r 0 4 _ HM.out).mono ?_
      rintro x w9 ⟨⟨rr, rfl⟩, hcu, hon⟩
      have HCU := Lib.hid hcu
      have HON := Lib.hid hon
      clear hcu hon
      go_wp2_with fail
      go_ret
      exact ⟨_, rfl, Own.nil _ _ _, CrS.bad ⟨4, by omega, HCU.out⟩, HON.out⟩
  · obtain ⟨rfl, rfl⟩ := hbad h0
    simp only [if_neg h0, sRaw]
    have hq : ((e : Int) != 0) = true := by simp [h0]
    have H0 := Lib.hid h0
    have HM := Lib.hid hv
    clear h0 hv hbad hl
    go_enter Tryd.func64, Tryd.ntmps64
    go_wp2_with (first | (with_reducible refine Agg.wpList_loadL HM.out.load rfl _ rfl rfl ?_) | (with_reducible refine Agg.wpList_loadL HM.out.err rfl _ rfl rfl ?_))
    refine (rfail_any base g (.slice none 0 0) [] e 4 _ HM.out).mono ?_
    rintro x w9 ⟨⟨rr, rfl⟩, hcu, hon⟩
    rw [if_neg H0.out] at hcu
    have HCU := Lib.hid hcu
    have HON := Lib.hid hon
    clear hcu hon
    go_wp2_with fail
    go_ret
    exact ⟨_, rfl, Own.nil _ _ _, CrS.bad ⟨e, H0.out, HCU.out⟩, HON.out⟩
theorem rcnum_40 (base g : Nat) (s : Option (List UInt8)) (w : World) (hl : stLen s ≤ 16777216) (h : CrS base g w s) :
    Calls Tryd.prog 39 #[.pointer (some ⟨g, 0, none⟩), .int .i64 1099511627776] w fun x w' => x = .returned (.int .i64 ((sNum 1099511627776 s).1 : Int)) ∧ CrS base g w' (sNum 1099511627776 s).2 ∧ Only (· = g) w w' := by
  have h1 := rcnum_any base g 1099511627776 s w hl (Nat.le_refl _) h
  rw [show ((1099511627776 : Nat) : Int) = (1099511627776 : Int) from by simp] at h1
  exact h1
theorem sText_num (most : Nat) (s : Option (List UInt8)) : sText most s = match (sNum 1099511627776 s).2 with
    | none => ([], none)
    | some y => if (sNum 1099511627776 s).1 ≤ most then sRaw (sNum 1099511627776 s).1 (some y) else ([], none) := by
  cases s with
  | none => rfl
  | some r =>
    cases hg : getN 1099511627776 r with
    | none => simp [sText, getT, sNum, hg]
    | some p =>
      obtain ⟨n, y⟩ := p
      have e : sNum 1099511627776 (some r) = (n, some y) := by simp only [sNum, hg]
      rw [e]
      simp only [sText, getT, hg, sRaw]
      by_cases h1 : n ≤ most <;> by_cases h2 : n ≤ y.length <;> simp [h1, h2]
set_option maxRecDepth 100000 in
set_option maxHeartbeats 2000000 in
theorem rctext_any (base g most : Nat) (s : Option (List UInt8)) (w : World) (hl : stLen s ≤ 16777216) (h : CrS base g w s) :
    Calls Tryd.prog 40 #[.pointer (some ⟨g, 0, none⟩), .int .i64 (most : Int)] w fun x w' => ∃ u, x = .returned u ∧ Own EB w.heap.size w' u (sText most s).1 ∧ CrS base g w' (sText most s).2 ∧ Only (· = g) w w' := by
  rw [sText_num]
  have hle := sNum_len 1099511627776 s
  have hn40 : (sNum 1099511627776 s).1 ≤ 1099511627776 := by
    cases s with
    | none => simp [sNum]
    | some r =>
      simp only [sNum]
      cases hg : getN 1099511627776 r with
      | none => simp
      | some p => obtain ⟨n, y⟩ := p; exact (getN_some hg).2.1
  have HC := Lib.hid (rcnum_40 base g s w hl h)
  obtain ⟨n, s', hns⟩ : ∃ n s', sNum 1099511627776 s = (n, s') := ⟨_, _, rfl⟩
  rw [hns] at hle hn40
  simp only [hns]
  have HNS := Lib.hid hns
  clear h hns
  go_enter Tryd.func40, Tryd.ntmps40
  go_wp2_with fail
  refine HC.out.mono ?_
  rintro x w1 ⟨rfl, hc, ho⟩
  rw [HNS.out] at hc ⊢
  obtain ⟨v1, r1, e1, hv1, hbad, hs'⟩ := hc
  have HO := Lib.hid ho
  have HM := Lib.hid hv1
  have hlr := fun W => bytes_len hv1.rest.slice W
  have hsz := ho.size
  clear ho hv1 HC
  by_cases h0 : e1 = 0
  · subst h0
    rw [if_pos rfl] at hs'
    have hs' : s' = some r1 := hs'
    subst hs'
    by_cases hm : n ≤ most
    · have hI : ¬ (most : Int) < (n : Int) := by omega
      have HMO := Lib.hid hm
      clear hbad hm
      go_wp2_with (first | (with_reducible refine Agg.wpList_loadL HM.out.err rfl _ rfl rfl ?_))
      refine (rcraw_any base g n (some r1) _ (Nat.le_trans hle hl) hn40 (CrS.good HM.out)).mono ?_
      rintro x w2 ⟨u, rfl, hu, hcu, ho2⟩
      have HU := Lib.hid (hu.lower hsz)
      have HCU := Lib.hid hcu
      have HON := Lib.hid (HO.out.trans ho2 fun _ _ h => h)
      clear hu hcu ho2
      go_wp2_with fail
      go_ret
      all_goals first
        | exact ⟨_, rfl, HU.out, HCU.out, HON.out⟩
        | (exfalso; have := HMO.out; omega)
    · have hI : (most : Int) < (n : Int) := by omega
      have HMO := Lib.hid hm
      clear hbad hm
      go_wp2_with (first | (with_reducible refine Agg.wpList_loadL HM.out.err rfl _ rfl rfl ?_))
      refine (rfail_any base g v1 r1 0 3 _ HM.out).mono ?_
      rintro x w9 ⟨⟨rr, rfl⟩, hcu, hon⟩
      have HCU := Lib.hid hcu
      have HON := Lib.hid (HO.out.trans hon fun _ _ h => h)
      clear hcu hon
      go_wp2_with (first | (with_reducible refine Agg.wpList_loadL HCU.out.err rfl _ rfl rfl ?_))
      go_ret
      all_goals first
        | exact ⟨_, rfl, Own.nil _ _ _, CrS.bad ⟨3, by omega, HCU.out⟩, HON.out⟩
        | (exfalso; have := HMO.out; omega)
  · rw [if_neg h0] at hs'
    have hs' : s' = none := hs'
    subst hs'
    obtain ⟨rfl, rfl⟩ := hbad h0
    have hq : ((e1 : Int) == 0) = false := by simp [h0]
    have hq2 : ((e1 : Int) != 0) = true := by simp [h0]
    have H0 := Lib.hid h0
    clear h0 hbad
    go_wp2_with (first | (with_reducible refine Agg.wpList_loadL HM.out.err rfl _ rfl rfl ?_))
    go_ret
    exact ⟨_, rfl, Own.nil _ _ _, CrS.bad ⟨e1, H0.out, HM.out⟩, HO.out⟩
end Go.Proofs.YtdedpcdbnpnbeaaDoor
/-! spenceref01.Cursor over the bytes of an argument: fail, End, Raw. -/
namespace Go.Proofs.YtdedpcdbnpnbeaaDoor
open Go.RowKit Pl Go.Agg
/-- bytes of old memory, read by a cursor at g -/
def RestA (base g : Nat) (w : World) (v : Value) (r : List UInt8) : Prop := base ≤ g ∧ (∃ p c, v = .slice p r.length c ∧ r.length ≤ c) ∧ BytesAt w v r ∧ (r = [] ∨ ∀ k, v.ownBlock = some k → k < base)
theorem argDropped {w : World} {p : Option Addr} {c : Nat} {l : List UInt8} (h : BytesAt w (.slice p l.length c) l) (hc : l.length ≤ c) (k : Nat) (hk : k ≤ l.length) :
    BytesAt w (.slice (if c = k then p else p.map (·.add k)) (l.length - k) (c - k)) (l.drop k) := by
  rcases h with ⟨q, d, e, rfl⟩ | ⟨q, d, e, hq, hcell⟩
  · simp only [List.length_nil, Nat.le_zero_eq] at hk
    subst hk
    exact SliceOf.nil _ _ _
  · simp only [Value.slice.injEq] at e
    obtain ⟨rfl, _, rfl⟩ := e
    by_cases hck : c = k
    · rw [if_pos hck, List.drop_eq_nil_of_le (by omega), show l.length - k = 0 by omega]
      exact SliceOf.nil _ _ _
    · rw [if_neg hck]
      refine .inr ⟨q.add k, c - k, by simp, by rw [add_block]; exact hq, fun j u hj => ?_⟩
      have e : EB.flat l = EB.flat (l.take k) ++ EB.flat (l.drop k) := by rw [← Elem.flat_append, List.take_append_drop]
      have hlen : (EB.flat (l.take k)).length = k := by rw [Elem.flat_length, show EB.n = 1 from rfl, List.length_take]; omega
      have := hcell (k + j) u (by rw [e, List.getElem?_append_right (by omega), hlen, show k + j - k = j by omega]; exact hj)
      rwa [← add_add] at this
theorem RestA.slice {base g : Nat} {w : World} {v : Value} {r : List UInt8} (h : RestA base g w v r) : BytesAt w v r := h.2.2.1
theorem RestA.nil {base g : Nat} {w : World} (h : base ≤ g) : RestA base g w (.slice none 0 0) [] := ⟨h, ⟨none, 0, rfl, by simp⟩, SliceOf.nil _ _ _, .inl rfl⟩
theorem RestA.below {base g : Nat} {w w' : World} {v : Value} {r : List UInt8} (h : RestA base g w v r) (hb : Below w.heap.size w w') : RestA base g w' v r := ⟨h.1, h.2.1, SliceOf.below h.2.2.1 hb, h.2.2.2⟩
theorem RestA.keep {base g : Nat} {w w' : World} {v : Value} {r : List UInt8} (h : RestA base g w v r) (hs : w.heap.size ≤ w'.heap.size) (hb : ∀ k, k < base → k < w.heap.size → w'.heap[k]? = w.heap[k]?) : RestA base g w' v r := by
  refine ⟨h.1, h.2.1, ?_, h.2.2.2⟩
  rcases h.2.2.2 with rfl | hk
  · obtain ⟨p, c, hf, _⟩ := h.2.1
    rw [hf]; exact SliceOf.nil _ _ _
  · rcases h.2.2.1 with h1 | ⟨p, cap, rfl, hp, hc⟩
    · exact .inl h1
    · refine .inr ⟨p, cap, rfl, Nat.lt_of_lt_of_le hp hs, fun j u hj => ?_⟩
      have hlt := hk p.block rfl
      have e : w'.cell? (p.add j) = w.cell? (p.add j) := by simp only [World.cell?, add_block, hb p.block hlt hp]
      rw [e]; exact hc j u hj
theorem RestA.of_arg {w : World} {v : Value} {r : List UInt8} {g : Nat} (h : BytesAt w v r) (hc : ∀ p n c, v = .slice p n c → n ≤ c) (hg : w.heap.size ≤ g) : RestA w.heap.size g w v r := by
  refine ⟨hg, ?_, h, ?_⟩
  · obtain ⟨p, c, hf⟩ := h.form
    exact ⟨p, c, hf, hc _ _ _ hf⟩
  · rcases h with ⟨p, c, _, rfl⟩ | ⟨p, cap, rfl, hp, _⟩
    · exact .inl rfl
    · exact .inr fun k hk => by simp only [Value.ownBlock, Option.some.injEq] at hk; omega
theorem arest_high {base g : Nat} {w : World} {v : Value} {r : List UInt8} (h : RestA base g w v r) (k : Nat) (hk : k ≤ r.length) :
    ∃ vx, (∀ W, (Instr.sliceAt 22 v none (some (.int .i64 (k : Int))) none).run Tryd.prog W = .ok vx W) ∧ BytesAt w vx (r.take k) := by
  obtain ⟨_, ⟨q, c, rfl, hc⟩, hs, _⟩ := h
  exact ⟨_, fun W => runHigh q r.length c k (by omega) W, sliceOf_taken hs k hk⟩
theorem arest_low {base g : Nat} {w : World} {v : Value} {r : List UInt8} (h : RestA base g w v r) (k : Nat) (hk : k ≤ r.length) :
    ∃ vx, (∀ W, (Instr.sliceAt 22 v (some (.int .i64 (k : Int))) none none).run Tryd.prog W = .ok vx W) ∧ RestA base g w vx (r.drop k) ∧ vx.cells = #[vx] ∧ vx.oneCell' = true := by
  obtain ⟨hg, ⟨q, c, rfl, hc⟩, hs, hb⟩ := h
  refine ⟨_, fun W => runLow _ _ _ k hk W, ⟨hg, ⟨_, _, by rw [List.length_drop], by rw [List.length_drop]; omega⟩, argDropped hs hc k hk, ?_⟩, rfl, rfl⟩
  rcases hb with rfl | hb
  · exact .inl (by simp)
  · right
    intro j hj
    split at hj
    · exact hb j (by cases q with
        | none => simp [Value.ownBlock] at hj
        | some p => simpa [Value.ownBlock] using hj)
    · cases q with
      | none => simp [Value.ownBlock] at hj
      | some p => exact hb j (by simpa [Value.ownBlock, add_block] using hj)
/-- a cursor at g: what is left, and what is wrong -/
structure CaV (base g : Nat) (w : World) (v : Value) (r : List UInt8) (e : Nat) : Prop where
  blk : Blk w g 57 (cuC v e)
  rest : RestA base g w v r
section
variable {base g : Nat} {w w' : World} {v : Value} {r : List UInt8} {e : Nat}
theorem CaV.load (h : CaV base g w v r e) : LoadsL Tryd.prog w 22 (some ⟨g, 0, none⟩) v :=
  h.blk.one (P := Tryd.prog) 0 rfl (by kernel_rfl : Tryd.prog.underlying 22 = some (.slice 5)) rfl
theorem CaV.err (h : CaV base g w v r e) : LoadsL Tryd.prog w 29 (some ⟨g, 1, none⟩) (.int .i64 (e : Int)) :=
  h.blk.one (P := Tryd.prog) 1 rfl Tryd.underlying29 rfl
theorem CaV.below (h : CaV base g w v r e) (hb : Below w.heap.size w w') : CaV base g w' v r e := ⟨h.blk.below hb, h.rest.below hb⟩
/-- one cell of it written -/
theorem CaV.put (h : CaV base g w v r e) (i : Nat) (hi : i < 2) (u : Value) (hu : u.cells = #[u]) (h1 : u.oneCell' = true) {ty : TypeId} (hs : (Tryd.prog.info? ty).map (·.size) = some 1) :
    ∃ w', (Instr.storeAt ty (.pointer (some ⟨g, i, none⟩)) u).run Tryd.prog w = .ok () w' ∧ Blk w' g 57 ((cuC v e).setIfInBounds i u) ∧ Only (· = g) w w' ∧ (∀ {x : Value} {l : List UInt8}, RestA base g w x l → RestA base g w' x l) := by
  have ho : Only (· = g) w (w.setCell ⟨g, i, none⟩ u) := ⟨rfl, rfl, rfl, by simp [World.setCell], fun k _ hk => Below.heap_setCell _ _ _ _ hk⟩
  exact ⟨_, h.blk.run_put i (by simpa [cuC] using hi) u hu h1 hs, h.blk.set i u, ho, fun {x l} hr => hr.keep ho.size fun k hk hk2 => ho.block k hk2 (by have := hr.1; show k ≠ g; omega)⟩
end
set_option maxRecDepth 100000 in
set_option maxHeartbeats 1000000 in
theorem afail_any (base g : Nat) (v : Value) (r : List UInt8) (e c : Nat) (w : World) (hm : CaV base g w v r e) :
    Calls Tryd.prog 63 #[.pointer (some ⟨g, 0, none⟩), .int .i64 (c : Int)] w fun x w' => (∃ r, x = .returned r) ∧ CaV base g w' (.slice none 0 0) [] (if e = 0 then c else e) ∧ Only (· = g) w w' := by
  have HE := Lib.hid hm.err
  have HM := Lib.hid hm
  clear hm
  by_cases h0 : e = 0
  · subst h0
    obtain ⟨w1, hrun1, hb1, ho1, hr1⟩ := HM.out.put (ty := 29) 1 (by omega) (.int .i64 (c : Int)) rfl rfl (by kernel_rfl)
    have hm1 : CaV base g w1 v r c := ⟨hb1, hr1 HM.out.rest⟩
    obtain ⟨w2, hrun2, hb2, ho2, _⟩ := hm1.put (ty := 22) 0 (by omega) (.slice none 0 0) rfl rfl (by kernel_rfl)
    have HO := Lib.hid (ho1.trans ho2 fun _ _ h => h)
    have HB := Lib.hid hb2
    clear hb1 ho1 hr1 hm1 hb2 ho2
    go_enter Tryd.func63, Tryd.ntmps63
    go_wp2_with (first | (with_reducible refine Agg.wpList_loadL HE.out rfl _ rfl rfl ?_) | (refine Agg.wpList_store rfl rfl 29 _ _ rfl (.pointer (some ⟨g, 1, none⟩)) _ rfl rfl hrun1 ?_) | (refine Agg.wpList_store rfl rfl 22 _ _ rfl (.pointer (some ⟨g, 0, none⟩)) _ rfl rfl hrun2 ?_))
    refine bodyPost_end (results_none rfl _ _ _) rfl ?_
    exact ⟨⟨_, rfl⟩, ⟨HB.out, RestA.nil HM.out.rest.1⟩, HO.out⟩
  · obtain ⟨w2, hrun2, hb2, ho2, _⟩ := HM.out.put (ty := 22) 0 (by omega) (.slice none 0 0) rfl rfl (by kernel_rfl)
    have hq : ((e : Int) == 0) = false := by simp [h0]
    have HH := Lib.hid h0
    have HO := Lib.hid ho2
    have HB := Lib.hid hb2
    clear hb2 ho2 h0
    go_enter Tryd.func63, Tryd.ntmps63
    go_wp2_with (first | (with_reducible refine Agg.wpList_loadL HE.out rfl _ rfl rfl ?_) | (refine Agg.wpList_store rfl rfl 22 _ _ rfl (.pointer (some ⟨g, 0, none⟩)) _ rfl rfl hrun2 ?_))
    refine bodyPost_end (results_none rfl _ _ _) rfl ?_
    exact ⟨⟨_, rfl⟩, ⟨HB.out, RestA.nil HM.out.rest.1⟩, HO.out⟩
def CaBad (base g : Nat) (w : World) : Prop := ∃ e, e ≠ 0 ∧ CaV base g w (.slice none 0 0) [] e
/-- a cursor at g, of a state -/
def CaS (base g : Nat) (w : World) (s : Option (List UInt8)) : Prop := ∃ v r e, CaV base g w v r e ∧ (e ≠ 0 → v = .slice none 0 0 ∧ r = []) ∧ s = (if e = 0 then some r else none)
theorem CaS.good {base g : Nat} {w : World} {v : Value} {r : List UInt8} (h : CaV base g w v r 0) : CaS base g w (some r) := ⟨v, r, 0, h, fun h => absurd rfl h, rfl⟩
theorem CaS.bad {base g : Nat} {w : World} (h : CaBad base g w) : CaS base g w none := by
  obtain ⟨e, he, h⟩ := h
  exact ⟨_, _, e, h, fun _ => ⟨rfl, rfl⟩, by rw [if_neg he]⟩
theorem CaS.below {base g : Nat} {w w' : World} {s : Option (List UInt8)} (h : CaS base g w s) (hb : Below w.heap.size w w') : CaS base g w' s := by
  obtain ⟨v, r, e, h, h1, h2⟩ := h
  exact ⟨v, r, e, h.below hb, h1, h2⟩
theorem CaS.lt {base g : Nat} {w : World} {s : Option (List UInt8)} (h : CaS base g w s) : g < w.heap.size := by
  obtain ⟨v, r, e, h, _⟩ := h
  exact h.blk.lt
set_option maxRecDepth 100000 in
set_option maxHeartbeats 2000000 in
/-- Raw, where so many are left -/
theorem acraw_good (base g many : Nat) (v : Value) (r : List UInt8) (w : World) (hr : r.length ≤ 16777216) (hle : many ≤ r.length) (hm : CaV base g w v r 0) :
    Calls Tryd.prog 64 #[.pointer (some ⟨g, 0, none⟩), .int .i64 (many : Int)] w fun x w' => ∃ u v', x = .returned u ∧ Own EB w.heap.size w' u (r.take many) ∧ CaV base g w' v' (r.drop many) 0 ∧ Only (· = g) w w' := by
  have hlr := fun W => bytes_len hm.rest.slice W
  have HM := Lib.hid hm
  have hI : ¬ (r.length : Int) < (many : Int) := by omega
  have hI0 : ¬ (many : Int) < 0 := by omega
  obtain ⟨vx, hsv, hbx⟩ := arest_high hm.rest many hle
  have HBX := Lib.hid hbx
  have HLE := Lib.hid hle
  have h63 : ([] : List UInt8).length + (r.take many).length ≤ 1099511627776 / 8 := by simp; omega
  clear hm hbx hle
  go_enter Tryd.func64, Tryd.ntmps64
  go_wp2_with (first | (with_reducible refine Agg.wpList_loadL HM.out.load rfl _ rfl rfl ?_) | (with_reducible refine Agg.wpList_loadL HM.out.err rfl _ rfl rfl ?_) | (refine Agg.wpList_slice0 (base := w.heap.size) EB rfl rfl (Nat.le_refl _) ?_; intro v0 w1 ho1 hx1 hne1; have HO1 := Lib.hid ho1; have HX1 := Lib.hid hx1; have HM1 := Lib.hid (HM.out.below hx1); have HBX1 := Lib.hid (HBX.out.below hx1); have hsz1 := hx1.size; clear ho1 hx1 hne1) | (with_reducible refine Agg.wpList_loadL HM1.out.load rfl _ rfl rfl ?_) | (refine Agg.wpList_appendS (E := EB) (base := w.heap.size) rfl _ _ rfl vx rfl rfl (r.take many) HO1.out HBX1.out h63 (by decide) hsz1 ?_; intro v2 w2 ho2 hp2 hne2; have HO2 := Lib.hid ho2; have HX2 := Lib.hid (HX1.out.trans (hp2.below w.heap.size (Nat.le_refl _) hsz1)); have HM2 := Lib.hid (HM.out.below HX2.out); obtain ⟨vy, hsy, hry, hyc, hy1⟩ := arest_low HM2.out.rest many HLE.out; obtain ⟨w3, hrun, hb3, ho3, hr3⟩ := HM2.out.put (ty := 22) 0 (by omega) vy hyc hy1 (by kernel_rfl); have HCU := Lib.hid (show CaV base g w3 vy (r.drop many) 0 from ⟨hb3, hr3 hry⟩); have HON := Lib.hid ho3; clear ho2 hp2 hne2 hry hyc hy1 hb3 ho3 hr3) | (with_reducible refine Agg.wpList_loadL HM2.out.load rfl _ rfl rfl ?_) | (refine Agg.wpList_store rfl rfl 22 _ _ rfl (.pointer (some ⟨g, 0, none⟩)) _ rfl rfl hrun ?_))
  go_ret
  refine ⟨v2, rfl, ?_, ⟨vy, HCU.out⟩, (Only.of_below (S := (· = g)) HX2.out).trans HON.out fun _ _ h => h⟩
  have hown : Own EB w.heap.size w2 v2 (r.take many) := by simpa using HO2.out
  exact hown.keepT fun k cur fr hk => (HON.out.block k (Agg.heap_lt hk) (fun h => by
    obtain rfl : k = g := h
    have hb := HM2.out.blk
    unfold Blk at hb
    rw [hk] at hb
    injection hb with hb
    injection hb with _ hb
    exact absurd hb (by decide))).trans hk
end Go.Proofs.YtdedpcdbnpnbeaaDoor
