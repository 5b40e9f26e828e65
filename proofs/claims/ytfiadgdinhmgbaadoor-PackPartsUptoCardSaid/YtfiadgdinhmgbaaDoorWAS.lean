/- A cursor, where other blocks are written. (Several texts in one.) -/
import Derived.Test.YtfiadgdinhmgbaaDoorWAI
import Derived.Test.YtfiadgdinhmgbaaDoorWAH
import Derived.Test.YtfiadgdinhmgbaaDoorWAL
import Derived.Test.YtfiadgdinhmgbaaDoorWAF
import Derived.Test.YtfiadgdinhmgbaaDoorWAJ
import Derived.Test.YtfiadgdinhmgbaaDoorWAM
/-! code.Cursor as a state: contracts without cases. -/
namespace Go.Proofs.YtfiadgdinhmgbaaDoor
open Go.RowKit Pl Go.Agg
/-- a cursor at g, of a state -/
def CuS (base g : Nat) (w : World) (s : Option (List UInt8)) : Prop := ∃ v r e, CuV base g w v r e ∧ (e ≠ 0 → v = .slice none 0 0 ∧ r = []) ∧ s = (if e = 0 then some r else none)
theorem CuS.good {base g : Nat} {w : World} {v : Value} {r : List UInt8} (h : CuV base g w v r 0) : CuS base g w (some r) := ⟨v, r, 0, h, fun h => absurd rfl h, rfl⟩
theorem CuS.bad {base g : Nat} {w : World} (h : CBad base g w) : CuS base g w none := by
  obtain ⟨e, he, h⟩ := h
  exact ⟨_, _, e, h, fun _ => ⟨rfl, rfl⟩, by rw [if_neg he]⟩
theorem CuS.below {base g : Nat} {w w' : World} {s : Option (List UInt8)} (h : CuS base g w s) (hb : Below w.heap.size w w') : CuS base g w' s := by
  obtain ⟨v, r, e, h, h1, h2⟩ := h
  exact ⟨v, r, e, h.below hb, h1, h2⟩
theorem CuS.lt {base g : Nat} {w : World} {s : Option (List UInt8)} (h : CuS base g w s) : g < w.heap.size := by
  obtain ⟨v, r, e, h, _⟩ := h
  exact h.blk.lt
theorem getN_nil (most : Nat) : getN most [] = none := by
  unfold getN
  rw [if_pos (.inl rfl)]
theorem getT_nil (most : Nat) : getT most [] = none := by
  unfold getT
  rw [getN_nil]
theorem snum_any (base g most : Nat) (s : Option (List UInt8)) (w : World) (hl : stLen s ≤ 16777216) (hmo : most ≤ 1099511627776) (h : CuS base g w s) :
    Calls Tryd.prog 81 #[.pointer (some ⟨g, 0, none⟩), .int .i64 (most : Int)] w fun x w' => x = .returned (.int .i64 ((sNum most s).1 : Int)) ∧ CuS base g w' (sNum most s).2 ∧ Only (· = g) w w' := by
  obtain ⟨v, r, e, hv, hbad, rfl⟩ := h
  by_cases h0 : e = 0
  · subst h0
    refine (cnum_any base g most v r 0 w (by simpa [stLen] using hl) hmo hv).mono ?_
    rintro x w' ⟨hc, ho⟩
    rcases hc with ⟨n, y, v', hg, rfl, hcu⟩ | ⟨hg, rfl, hcu⟩
    · simp only [if_true, sNum, hg]
      exact ⟨trivial, CuS.good hcu, ho⟩
    · simp only [if_true, sNum, hg] at hcu ⊢
      exact ⟨rfl, CuS.bad ⟨4, by omega, hcu⟩, ho⟩
  · obtain ⟨rfl, rfl⟩ := hbad h0
    refine (cnum_any base g most _ [] e w (by simp) hmo hv).mono ?_
    rintro x w' ⟨hc, ho⟩
    rcases hc with ⟨n, y, v', hg, rfl, hcu⟩ | ⟨hg, rfl, hcu⟩
    · rw [getN_nil] at hg; cases hg
    · simp only [if_neg h0, sNum] at hcu ⊢
      exact ⟨rfl, CuS.bad ⟨e, h0, hcu⟩, ho⟩
theorem sraw_any (base g many : Nat) (s : Option (List UInt8)) (w : World) (hl : stLen s ≤ 16777216) (hmo : many ≤ 1099511627776) (h : CuS base g w s) :
    Calls Tryd.prog 97 #[.pointer (some ⟨g, 0, none⟩), .int .i64 (many : Int)] w fun x w' => ∃ u, x = .returned u ∧ Own EB w.heap.size w' u (sRaw many s).1 ∧ CuS base g w' (sRaw many s).2 ∧ Only (· = g) w w' := by
  obtain ⟨v, r, e, hv, hbad, rfl⟩ := h
  by_cases h0 : e = 0
  · subst h0
    refine (craw_any base g many v r 0 w (by simpa [stLen] using hl) hmo hv).mono ?_
    rintro x w' ⟨hc, ho⟩
    rcases hc with ⟨_, hle, u, v', rfl, hu, hcu⟩ | ⟨hor, rfl, hcu⟩
    · simp only [if_true, sRaw, if_pos hle]
      exact ⟨u, rfl, hu, CuS.good hcu, ho⟩
    · have hle : ¬ many ≤ r.length := by rcases hor with h | h <;> omega
      simp only [if_true, sRaw, if_neg hle]
      exact ⟨_, rfl, Own.nil _ _ _, CuS.bad hcu, ho⟩
  · obtain ⟨rfl, rfl⟩ := hbad h0
    refine (craw_any base g many _ [] e w (by simp) hmo hv).mono ?_
    rintro x w' ⟨hc, ho⟩
    rcases hc with ⟨h, _⟩ | ⟨hor, rfl, hcu⟩
    · exact absurd h h0
    · simp only [if_neg h0, sRaw]
      exact ⟨_, rfl, Own.nil _ _ _, CuS.bad hcu, ho⟩
theorem stext_any (base g most : Nat) (s : Option (List UInt8)) (w : World) (hl : stLen s ≤ 16777216) (h : CuS base g w s) :
    Calls Tryd.prog 82 #[.pointer (some ⟨g, 0, none⟩), .int .i64 (most : Int)] w fun x w' => ∃ u, x = .returned u ∧ Own EB w.heap.size w' u (sText most s).1 ∧ CuS base g w' (sText most s).2 ∧ Only (· = g) w w' := by
  obtain ⟨v, r, e, hv, hbad, rfl⟩ := h
  by_cases h0 : e = 0
  · subst h0
    refine (ctext_any base g most v r 0 w (by simpa [stLen] using hl) (fun h => absurd rfl h) hv).mono ?_
    rintro x w' ⟨hc, ho⟩
    rcases hc with ⟨_, l, y, u, v', hg, rfl, hu, hcu⟩ | ⟨hor, rfl, hcu⟩
    · simp only [if_true, sText, hg]
      exact ⟨u, rfl, hu, CuS.good hcu, ho⟩
    · have hg : getT most r = none := hor.elim (fun h => absurd rfl h) id
      simp only [if_true, sText, hg]
      exact ⟨_, rfl, Own.nil _ _ _, CuS.bad hcu, ho⟩
  · obtain ⟨rfl, rfl⟩ := hbad h0
    refine (ctext_any base g most _ [] e w (by simp) (fun _ => rfl) hv).mono ?_
    rintro x w' ⟨hc, ho⟩
    rcases hc with ⟨h, _⟩ | ⟨hor, rfl, hcu⟩
    · exact absurd h h0
    · simp only [if_neg h0, sText]
      exact ⟨_, rfl, Own.nil _ _ _, CuS.bad hcu, ho⟩
theorem send_any (base g : Nat) (s : Option (List UInt8)) (w : World) (h : CuS base g w s) :
    Calls Tryd.prog 56 #[.pointer (some ⟨g, 0, none⟩)] w fun x w' => (∃ c : Nat, x = .returned (.int .i64 (c : Int)) ∧ (c = 0 ↔ s = some [])) ∧ w' = w := by
  obtain ⟨v, r, e, hv, hbad, rfl⟩ := h
  refine (cend_any base g v r e w hv).mono ?_
  rintro x w' ⟨⟨c, rfl, hc⟩, rfl⟩
  refine ⟨⟨c, rfl, ?_⟩, rfl⟩
  rw [hc]
  by_cases h0 : e = 0
  · simp [h0]
  · simp [h0]
end Go.Proofs.YtfiadgdinhmgbaaDoor
/-! spenceref01.Number. -/
namespace Go.Proofs.YtfiadgdinhmgbaaDoor
open Go.RowKit Pl Go.Agg
end Go.Proofs.YtfiadgdinhmgbaaDoor
/-! spenceref01.Cursor: fail, End, Raw, Num, Text. -/
namespace Go.Proofs.YtfiadgdinhmgbaaDoor
open Go.RowKit Pl Go.Agg
section
variable {base g : Nat} {w w' : World} {v : Value} {r : List UInt8} {e : Nat}
end
end Go.Proofs.YtfiadgdinhmgbaaDoor
/-! spenceref01.Cursor: Num, Text. -/
namespace Go.Proofs.YtfiadgdinhmgbaaDoor
open Go.RowKit Pl Go.Agg
theorem getN_go (most : Nat) (b : List UInt8) : getN most b = if (numGo 0 0 b).1 = 0 ∨ (numGo 0 0 b).1 ≠ (encN (numGo 0 0 b).2).length ∨ 1099511627776 < (numGo 0 0 b).2 ∨ most < (numGo 0 0 b).2 then none else some ((numGo 0 0 b).2, b.drop (numGo 0 0 b).1) := by
  have h := numGo_dec b 0 0 (by omega)
  unfold getN
  by_cases h0 : (dec 6 b).1 = 0
  · rw [if_pos (show (dec (6 - 0) b).1 = 0 from h0)] at h
    rw [if_pos (.inl h0), if_pos (.inl h)]
  · rw [if_neg (show ¬ (dec (6 - 0) b).1 = 0 from h0)] at h
    have e : numGo 0 0 b = ((dec 6 b).1, (dec 6 b).2) := by rw [h]; simp
    rw [e]
end Go.Proofs.YtfiadgdinhmgbaaDoor
/-! spenceref01.Cursor as a state: contracts without cases; Text. -/
namespace Go.Proofs.YtfiadgdinhmgbaaDoor
open Go.RowKit Pl Go.Agg
theorem sText_num (most : Nat) (s : Option (List UInt8)) : sText most s = match (sNum 1099511627776 s).2 with
    | none => ([], none)
    | some y => if (sNum 1099511627776 s).1 ≤ most then sRaw (sNum 1099511627776 s).1 (some y) else ([], none) := by
  cases s with
  | none => rfl
  | some r =>
    cases hg : getN 1099511627776 r with
    | none => simp [sText, getT, sNum, hg]
    | some p =>
      obtain ⟨n, y⟩ := p
      have e : sNum 1099511627776 (some r) = (n, some y) := by simp only [sNum, hg]
      rw [e]
      simp only [sText, getT, hg, sRaw]
      by_cases h1 : n ≤ most <;> by_cases h2 : n ≤ y.length <;> simp [h1, h2]
end Go.Proofs.YtfiadgdinhmgbaaDoor
/-! spenceref01.Cursor over the bytes of an argument: fail, End, Raw. -/
namespace Go.Proofs.YtfiadgdinhmgbaaDoor
open Go.RowKit Pl Go.Agg
/-- bytes of old memory, read by a cursor at g -/
def RestA (base g : Nat) (w : World) (v : Value) (r : List UInt8) : Prop := base ≤ g ∧ (∃ p c, v = .slice p r.length c ∧ r.length ≤ c) ∧ BytesAt w v r ∧ (r = [] ∨ ∀ k, v.ownBlock = some k → k < base)
theorem argDropped {w : World} {p : Option Addr} {c : Nat} {l : List UInt8} (h : BytesAt w (.slice p l.length c) l) (hc : l.length ≤ c) (k : Nat) (hk : k ≤ l.length) :
    BytesAt w (.slice (if c = k then p else p.map (·.add k)) (l.length - k) (c - k)) (l.drop k) := by
  rcases h with ⟨q, d, e, rfl⟩ | ⟨q, d, e, hq, hcell⟩
  · simp only [List.length_nil, Nat.le_zero_eq] at hk
    subst hk
    exact SliceOf.nil _ _ _
  · simp only [Value.slice.injEq] at e
    obtain ⟨rfl, _, rfl⟩ := e
    by_cases hck : c = k
    · rw [if_pos hck, List.drop_eq_nil_of_le (by omega), show l.length - k = 0 by omega]
      exact SliceOf.nil _ _ _
    · rw [if_neg hck]
      refine .inr ⟨q.add k, c - k, by simp, by rw [add_block]; exact hq, fun j u hj => ?_⟩
      have e : EB.flat l = EB.flat (l.take k) ++ EB.flat (l.drop k) := by rw [← Elem.flat_append, List.take_append_drop]
      have hlen : (EB.flat (l.take k)).length = k := by rw [Elem.flat_length, show EB.n = 1 from rfl, List.length_take]; omega
      have := hcell (k + j) u (by rw [e, List.getElem?_append_right (by omega), hlen, show k + j - k = j by omega]; exact hj)
      rwa [← add_add] at this
theorem RestA.slice {base g : Nat} {w : World} {v : Value} {r : List UInt8} (h : RestA base g w v r) : BytesAt w v r := h.2.2.1
theorem RestA.nil {base g : Nat} {w : World} (h : base ≤ g) : RestA base g w (.slice none 0 0) [] := ⟨h, ⟨none, 0, rfl, by simp⟩, SliceOf.nil _ _ _, .inl rfl⟩
theorem RestA.below {base g : Nat} {w w' : World} {v : Value} {r : List UInt8} (h : RestA base g w v r) (hb : Below w.heap.size w w') : RestA base g w' v r := ⟨h.1, h.2.1, SliceOf.below h.2.2.1 hb, h.2.2.2⟩
theorem RestA.keep {base g : Nat} {w w' : World} {v : Value} {r : List UInt8} (h : RestA base g w v r) (hs : w.heap.size ≤ w'.heap.size) (hb : ∀ k, k < base → k < w.heap.size → w'.heap[k]? = w.heap[k]?) : RestA base g w' v r := by
  refine ⟨h.1, h.2.1, ?_, h.2.2.2⟩
  rcases h.2.2.2 with rfl | hk
  · obtain ⟨p, c, hf, _⟩ := h.2.1
    rw [hf]; exact SliceOf.nil _ _ _
  · rcases h.2.2.1 with h1 | ⟨p, cap, rfl, hp, hc⟩
    · exact .inl h1
    · refine .inr ⟨p, cap, rfl, Nat.lt_of_lt_of_le hp hs, fun j u hj => ?_⟩
      have hlt := hk p.block rfl
      have e : w'.cell? (p.add j) = w.cell? (p.add j) := by simp only [World.cell?, add_block, hb p.block hlt hp]
      rw [e]; exact hc j u hj
theorem RestA.of_arg {w : World} {v : Value} {r : List UInt8} {g : Nat} (h : BytesAt w v r) (hc : ∀ p n c, v = .slice p n c → n ≤ c) (hg : w.heap.size ≤ g) : RestA w.heap.size g w v r := by
  refine ⟨hg, ?_, h, ?_⟩
  · obtain ⟨p, c, hf⟩ := h.form
    exact ⟨p, c, hf, hc _ _ _ hf⟩
  · rcases h with ⟨p, c, _, rfl⟩ | ⟨p, cap, rfl, hp, _⟩
    · exact .inl rfl
    · exact .inr fun k hk => by simp only [Value.ownBlock, Option.some.injEq] at hk; omega
theorem arest_high {base g : Nat} {w : World} {v : Value} {r : List UInt8} (h : RestA base g w v r) (k : Nat) (hk : k ≤ r.length) :
    ∃ vx, (∀ W, (Instr.sliceAt 23 v none (some (.int .i64 (k : Int))) none).run Tryd.prog W = .ok vx W) ∧ BytesAt w vx (r.take k) := by
  obtain ⟨_, ⟨q, c, rfl, hc⟩, hs, _⟩ := h
  exact ⟨_, fun W => runHigh q r.length c k (by omega) W, sliceOf_taken hs k hk⟩
theorem arest_low {base g : Nat} {w : World} {v : Value} {r : List UInt8} (h : RestA base g w v r) (k : Nat) (hk : k ≤ r.length) :
    ∃ vx, (∀ W, (Instr.sliceAt 23 v (some (.int .i64 (k : Int))) none none).run Tryd.prog W = .ok vx W) ∧ RestA base g w vx (r.drop k) ∧ vx.cells = #[vx] ∧ vx.oneCell' = true := by
  obtain ⟨hg, ⟨q, c, rfl, hc⟩, hs, hb⟩ := h
  refine ⟨_, fun W => runLow _ _ _ k hk W, ⟨hg, ⟨_, _, by rw [List.length_drop], by rw [List.length_drop]; omega⟩, argDropped hs hc k hk, ?_⟩, rfl, rfl⟩
  rcases hb with rfl | hb
  · exact .inl (by simp)
  · right
    intro j hj
    split at hj
    · exact hb j (by cases q with
        | none => simp [Value.ownBlock] at hj
        | some p => simpa [Value.ownBlock] using hj)
    · cases q with
      | none => simp [Value.ownBlock] at hj
      | some p => exact hb j (by simpa [Value.ownBlock, add_block] using hj)
section
variable {base g : Nat} {w w' : World} {v : Value} {r : List UInt8} {e : Nat}
end
end Go.Proofs.YtfiadgdinhmgbaaDoor
/-! spencekit.SameBytes. -/
namespace Go.Proofs.YtfiadgdinhmgbaaDoor
open Go.RowKit Pl Go.Agg
theorem take_eq_succ {α : Type} {a b : List α} {k : Nat} {x y : α} (hx : a[k]? = some x) (hy : b[k]? = some y) (h : a.take k = b.take k) (hxy : x = y) : a.take (k + 1) = b.take (k + 1) := by
  rw [List.take_add_one, List.take_add_one, hx, hy, h, hxy]
theorem ne_at {α : Type} {a b : List α} {k : Nat} {x y : α} (hx : a[k]? = some x) (hy : b[k]? = some y) (hxy : x ≠ y) : a ≠ b := by
  rintro rfl
  exact hxy (Option.some.inj (hx.symm.trans hy))
theorem i64_nat {a b : Nat} (h : a = b) : Value.int .i64 (a : Int) = .int .i64 (b : Int) := by rw [h]
set_option maxRecDepth 100000 in
set_option maxHeartbeats 1000000 in
theorem sameBytes_any (v u : Value) (a b : List UInt8) (_ha : a.length ≤ 1048576) (hb : b.length ≤ 1048576) (w : World) (he : BytesAt w v a) (hf : BytesAt w u b) :
    Calls Tryd.prog 44 #[v, u] w fun e w' => e = .returned (.bool (decide (a = b))) ∧ Below w.heap.size w w' := by
  have hlv := fun W => bytes_len he W
  have hlu := fun W => bytes_len hf W
  have HE := Lib.hid he
  have HF := Lib.hid hf
  clear he hf
  by_cases hlen : a.length = b.length
  · have hne : ((a.length : Int) != (b.length : Int)) = false := by simp [hlen]
    have HLEN := Lib.hid hlen
    rw [hlen] at hlv hne
    clear hlen
    go_enter Tryd.func44, Tryd.ntmps44
    go_wp2_with fail
    go_loopw [5] (fun i wr => ∃ k : Nat, k ≤ b.length ∧ i = .int .i64 k ∧ a.take k = b.take k ∧ Below w.heap.size w wr) (fun i _ => b.length - (intOf i).toNat)
    case atStart => exact ⟨0, by omega, rfl, rfl, Below.refl _ _⟩
    case round =>
      obtain ⟨w1, rfl⟩ : ∃ w1 : World, w1 = wr := ⟨_, rfl⟩
      obtain ⟨k, hk, rfl, htk, hw⟩ := hrel
      have HTK := Lib.hid htk
      clear htk
      by_cases hlt : k < b.length
      · obtain ⟨y, hyk⟩ : ∃ y, b[k]? = some y := ⟨_, List.getElem?_eq_getElem hlt⟩
        obtain ⟨x, hxk⟩ : ∃ x, a[k]? = some x := ⟨_, List.getElem?_eq_getElem (by rw [HLEN.out]; exact hlt)⟩
        obtain ⟨p, hadr, hld⟩ := byte_at (HE.out.below hw) k x hxk
        obtain ⟨q, hadq, hlq⟩ := byte_at (HF.out.below hw) k y hyk
        have HLX := Lib.hid hld
        have HLY := Lib.hid hlq
        clear hld hlq
        have HX := Lib.hid hxk
        have HY := Lib.hid hyk
        clear hxk hyk
        by_cases hxy : x = y
        · have HXY := Lib.hid hxy
          have hq : ((x.toNat : Int) != (y.toNat : Int)) = false := by simp [hxy]
          clear hxy
          go_wp2_with fail
          try simp only [Act.put, List.setIfInBounds_toArray, List.set_cons_succ, List.set_cons_zero]
          refine Agg.wp_region_later_lit (by kernel_rfl) (by kernel_rfl) ?_
          repeat (first | go_big_quiet_skip | ((first | (with_reducible refine Agg.wpQuiet_loadL HLX.out rfl _ rfl rfl ?_) | (with_reducible refine Agg.wpQuiet_loadL HLY.out rfl _ rfl rfl ?_)); simp only [Act.put, List.setIfInBounds_toArray, List.set_cons_succ, List.set_cons_zero]) | go_big_quiet_step (fail))
          refine wpQuiet_nil ?_
          intro _ hw'
          obtain ⟨x1, rfl⟩ := hw'
          go_wp2_with fail
          go_roundw
          case rel => exact ⟨k + 1, by omega, by go_num, take_eq_succ HX.out HY.out HTK.out HXY.out, Agg.belowThen hw (Nat.le_refl _) x1.h⟩
          case measure => simp [intOf]; omega
        · have HXY := Lib.hid hxy
          have hq : ((x.toNat : Int) != (y.toNat : Int)) = true := by rw [bne_iff_ne]; intro e; exact hxy (UInt8.toNat_inj.1 (by omega))
          clear hxy
          go_wp2_with fail
          try simp only [Act.put, List.setIfInBounds_toArray, List.set_cons_succ, List.set_cons_zero]
          refine Agg.wp_region_later_lit (by kernel_rfl) (by kernel_rfl) ?_
          repeat (first | go_big_quiet_skip | ((first | (with_reducible refine Agg.wpQuiet_loadL HLX.out rfl _ rfl rfl ?_) | (with_reducible refine Agg.wpQuiet_loadL HLY.out rfl _ rfl rfl ?_)); simp only [Act.put, List.setIfInBounds_toArray, List.set_cons_succ, List.set_cons_zero]) | go_big_quiet_step (fail))
          refine wpQuiet_nil ?_
          intro _ hw'
          obtain ⟨x1, rfl⟩ := hw'
          have hres : decide (a = b) = false := by simpa using ne_at HX.out HY.out HXY.out
          have HR := Lib.hid hres
          clear hres
          go_wp2_with fail
          go_ret
          exact ⟨ret_bool HR.out.symm, Agg.belowThen hw (Nat.le_refl _) x1.h⟩
      · obtain rfl : k = b.length := by omega
        have hres : decide (a = b) = true := by
          have := HTK.out
          rw [List.take_length, List.take_of_length_le (by rw [HLEN.out]; omega)] at this
          simpa using this
        have HR := Lib.hid hres
        clear hres
        go_wp2_with fail
        go_ret
        exact ⟨ret_bool HR.out.symm, hw⟩
  · have hne : ((a.length : Int) != (b.length : Int)) = true := by rw [bne_iff_ne]; omega
    have hres : decide (a = b) = false := by simp; exact fun e => hlen (by rw [e])
    have HR := Lib.hid hres
    clear hres
    go_enter Tryd.func44, Tryd.ntmps44
    go_wp2_with fail
    go_ret
    exact ⟨ret_bool HR.out.symm, Below.refl _ _⟩
end Go.Proofs.YtfiadgdinhmgbaaDoor
/-! spencelaw09.within. -/
namespace Go.Proofs.YtfiadgdinhmgbaaDoor
open Go.RowKit Pl Go.Agg
theorem runBoth (p : Option Addr) (n c lo hi : Nat) (h1 : lo ≤ hi) (h2 : hi ≤ c) (W : World) : (Instr.sliceAt 23 (.slice p n c) (some (.int .i64 (lo : Int))) (some (.int .i64 (hi : Int))) none).run Tryd.prog W = .ok (.slice (if c = lo then p else p.map (·.add lo)) (hi - lo) (c - lo)) W := by
  have hu : Tryd.prog.underlying 23 = some (.slice 5) := by kernel_rfl
  have h3 : lo ≤ c := by omega
  simp [Instr.sliceAt, Instr.slice, Instr.sliceBounds, Instr.sliceBound, run_underlying hu, Sem.run_bind, asIntOf, h1, h2]
theorem infix_parts {a b : List UInt8} (h : a <:+: b) : ∃ k, k + a.length ≤ b.length ∧ (b.drop k).take a.length = a := by
  obtain ⟨p, q, rfl⟩ := h
  refine ⟨p.length, by simp only [List.length_append]; omega, ?_⟩
  rw [List.append_assoc, List.drop_left, List.take_left]
set_option maxRecDepth 100000 in
set_option maxHeartbeats 4000000 in
theorem within_any (va vb : Value) (a b : List UInt8) (hab : a <:+: b) (hb : b.length ≤ 1048576) (w : World) (ha : BytesAt w va a) (hv : BytesAt w vb b) (hcap : ∀ p n c, vb = .slice p n c → n ≤ c) :
    Calls Tryd.prog 30 #[va, vb] w fun e w' => e = .returned (.bool true) ∧ Below w.heap.size w w' := by
  obtain ⟨m, hm, hma⟩ := infix_parts hab
  have hla := fun W => bytes_len ha W
  have hlb := fun W => bytes_len hv W
  obtain ⟨p, c, rfl⟩ := hv.form
  have hc := hcap _ _ _ rfl
  have HA := Lib.hid ha
  have HB := Lib.hid hv
  have HMA := Lib.hid hma
  clear ha hv hma hab hcap
  go_enter Tryd.func30, Tryd.ntmps30
  go_wp2_with fail
  go_loopw [5] (fun i wr => ∃ k : Nat, k ≤ m ∧ i = .int .i64 (k : Int) ∧ Below w.heap.size w wr) (fun i _ => m + 1 - (intOf i).toNat)
  case atStart => exact ⟨0, by omega, rfl, Below.refl _ _⟩
  case round =>
    obtain ⟨k, hk, rfl, hw⟩ := hrel
    have HW := Lib.hid hw
    clear hw
    have hd : decide ((k : Int) + (a.length : Int) ≤ (b.length : Int)) = true := by simp; omega
    have hsl : ∀ W, (Instr.sliceAt 23 (.slice p b.length c) (some (.int .i64 (k : Int))) (some (.int .i64 ((k : Int) + (a.length : Int)))) none).run Tryd.prog W = .ok (.slice (if c = k then p else p.map (·.add k)) a.length (c - k)) W := fun W => by
      have h := runBoth p b.length c k (k + a.length) (by omega) (by omega) W
      rwa [show ((k + a.length : Nat) : Int) = (k : Int) + (a.length : Int) by omega, show k + a.length - k = a.length by omega] at h
    have hsub : ∀ W, Below w.heap.size w W → BytesAt W (.slice (if c = k then p else p.map (·.add k)) a.length (c - k)) ((b.drop k).take a.length) := fun W hW => by
      have h1 := argDropped (SliceOf.below HB.out hW) (by omega) k (by omega)
      rw [← List.length_drop] at h1
      exact sliceOf_taken h1 a.length (by rw [List.length_drop]; omega)
    have HSB := Lib.hid hsub
    clear hsub
    obtain ⟨q, hq⟩ : ∃ q, decide ((b.drop k).take a.length = a) = q := ⟨_, rfl⟩
    have HQ := Lib.hid hq
    clear hq
    obtain ⟨vs, hvs⟩ : ∃ vs, vs = Value.slice (if c = k then p else p.map (·.add k)) a.length (c - k) := ⟨_, rfl⟩
    rw [← hvs] at hsl HSB
    clear hvs
    go_wp2_with (first | (refine Agg.wpList_valw rfl (exec_addI (m := k) (n := a.length) (by omega) rfl rfl rfl) ?_))
    refine (sameBytes_any vs va ((b.drop k).take a.length) a (by rw [List.length_take, List.length_drop]; omega) (by omega) wr (HSB.out wr HW.out) (SliceOf.below HA.out HW.out)).mono ?_
    rintro e w2 ⟨rfl, hx⟩
    have HX2 := Lib.hid (Agg.belowThen HW.out (Nat.le_refl _) hx)
    rw [HQ.out]
    clear hx
    cases q with
    | true =>
      go_wp2_with fail
      go_ret
      exact ⟨rfl, HX2.out⟩
    | false =>
      have hne : k ≠ m := fun e => by
        have h := HQ.out
        rw [e, HMA.out] at h
        simp at h
      go_wp2_with fail
      go_roundw
      case rel => exact ⟨k + 1, by omega, by go_num, HX2.out⟩
      case measure => simp [intOf] <;> omega
end Go.Proofs.YtfiadgdinhmgbaaDoor
/-! What is read off an archive: nothing grows. No program in sight. -/
namespace Go.Tr
open Go.Proofs.YtfiadgdinhmgbaaDoor Go.Agg
theorem opnL_le {g : Nat → S → Option (T × Nat × S)} (hg : ∀ left s r, g left s = some r → r.2.1 ≤ left ∧ stLen r.2.2 ≤ stLen s) : ∀ (c : Nat) (last : List UInt8) (left : Nat) (s : S) (r : List K × Nat × S), opnL g c last left s = some r → r.2.1 ≤ left ∧ stLen r.2.2 ≤ stLen s
  | 0, last, left, s, r, h => by
    simp only [opnL, Option.some.injEq] at h
    subst h
    exact ⟨Nat.le_refl _, Nat.le_refl _⟩
  | c + 1, last, left, s, r, h => by
    simp only [opnL] at h
    split at h
    · split at h
      · cases h
      · next t left2 s2 hgt =>
        split at h
        · cases h
        · next l2 left3 s3 hl2 =>
          have h1 := hg _ _ _ hgt
          have h2 := opnL_le hg c _ _ _ _ hl2
          have h3 := sText_len 24 s
          rw [← Option.some.inj h]
          exact ⟨Nat.le_trans h2.1 h1.1, Nat.le_trans h2.2 (Nat.le_trans h1.2 h3)⟩
    · cases h
theorem opn_le : ∀ (f d left : Nat) (s : S) (r : T × Nat × S), opn f d left s = some r → r.2.1 ≤ left ∧ stLen r.2.2 ≤ stLen s
  | 0, d, left, s, r, h => by simp [opn] at h
  | f + 1, d, left, s, r, h => by
    simp only [opn] at h
    split at h
    · cases h
    · have h1 := sNum_len 4 s
      split at h
      · split at h
        · cases h
        · next l left2 s2 hl =>
          have h2 := opnL_le (fun left s r h => opn_le f (d + 1) left s r h) _ _ _ _ _ hl
          have h3 := sNum_len 200 (sNum 4 s).2
          rw [← Option.some.inj h]
          exact ⟨by have := h2.1; show left2 ≤ left; simp only at this; omega, Nat.le_trans h2.2 (Nat.le_trans h3 h1)⟩
      · have h3 := sText_len 2048 (sNum 4 s).2
        rw [← Option.some.inj h]
        exact ⟨Nat.sub_le _ _, Nat.le_trans h3 h1⟩
/-- what so many kids come to, behind some -/
def andL (m : List K) : Option (List K × Nat × S) → Option (List K × Nat × S)
  | none => none
  | some (l, left, s) => some (m ++ l, left, s)
theorem andL_nil (r : Option (List K × Nat × S)) : andL [] r = r := by
  cases r with
  | none => rfl
  | some r => rfl
/-- a round: no name above the last one -/
theorem opnL_bad {g : Nat → S → Option (T × Nat × S)} {c : Nat} {last n : List UInt8} {left : Nat} {s s1 : S} (h : sText 24 s = (n, s1)) (hb : Op.bytesLess last n = false) : opnL g (c + 1) last left s = none := by
  simp [opnL, h, hb]
/-- .. no node there -/
theorem opnL_none' {g : Nat → S → Option (T × Nat × S)} {c : Nat} {last n : List UInt8} {left : Nat} {s s1 : S} (h : sText 24 s = (n, s1)) (hg : g left s1 = none) : opnL g (c + 1) last left s = none := by
  simp only [opnL, h, hg]
  split <;> rfl
/-- .. a kid -/
theorem opnL_kid {g : Nat → S → Option (T × Nat × S)} {c : Nat} {last n : List UInt8} {left left1 : Nat} {s s1 s2 : S} {t : T} (h : sText 24 s = (n, s1)) (hb : Op.bytesLess last n = true) (hg : g left s1 = some (t, left1, s2)) (m : List K) :
    andL m (opnL g (c + 1) last left s) = andL (m ++ [(n, t)]) (opnL g c n left1 s2) := by
  simp only [opnL, h, hb, if_true, hg]
  cases opnL g c n left1 s2 with
  | none => rfl
  | some r => obtain ⟨l, l2, s3⟩ := r; simp [andL]
end Go.Tr
/-! A cursor, where other blocks are written. -/
namespace Go.Proofs.YtfiadgdinhmgbaaDoor
open Go.RowKit Pl Go.Agg
theorem CuS.keep {base gc : Nat} {w w' : World} {s : Option (List UInt8)} {S : Nat → Prop} (h : CuS base gc w s) (ho : Only S w w') (hS : ¬ S gc) (hr : ∀ k, S k → k < w.heap.size → ∀ cur fr, w.heap[k]? ≠ some (Obj.cells cur 5 fr)) : CuS base gc w' s := by
  obtain ⟨v, r, e, hv, h1, h2⟩ := h
  refine ⟨v, r, e, ⟨hv.blk.only ho hS, restKeepT hv.rest fun k cur fr hk => (ho.block k (Agg.heap_lt hk) fun hs => hr k hs (Agg.heap_lt hk) cur fr hk).trans hk⟩, h1, h2⟩
section
variable {base gc : Nat} {w w' : World} {s : Option (List UInt8)}
theorem CuS.blk (h : CuS base gc w s) : ∃ cs, Blk w gc 106 cs := by
  obtain ⟨v, r, e, hv, _⟩ := h
  exact ⟨_, hv.blk⟩
/-- another block was written -/
theorem CuS.other {g : Nat} {t : TypeId} {cs : Array Value} (h : CuS base gc w s) (ho : Only (· = g) w w') (hb : Blk w g t cs) (h2 : t ≠ 106) (h3 : t ≠ 5) : CuS base gc w' s := by
  refine h.keep ho (fun e => ?_) fun k hk _ cur fr hc => ?_
  · subst e
    obtain ⟨cs', hb'⟩ := h.blk
    exact h2 (hb.type hb')
  · subst hk
    unfold Blk at hb
    rw [hb] at hc
    injection hc with hc
    injection hc with _ hc
    exact h3 hc
theorem CuS.pushed {α : Type} {E : Elem Tryd.prog α} {B : Nat} {v : Value} (h : CuS base gc w s) (hp : Pushed E B w w' v) (h2 : 106 ≠ E.ty) (h3 : 5 ≠ E.ty) : CuS base gc w' s := by
  obtain ⟨v, r, e, hv, h4, h5⟩ := h
  exact ⟨v, r, e, ⟨hp.blk gc _ _ _ h2 hv.blk, restKeepT hv.rest fun k cur fr hk => hp.blk k _ _ _ h3 hk⟩, h4, h5⟩
end
end Go.Proofs.YtfiadgdinhmgbaaDoor
