/- A cursor, where other blocks are written. (Several texts in one.) -/
import Derived.Test.YtgekpghjlhcpkaaKAN
import Derived.Test.YtgekpghjlhcpkaaKAZ
/-! code.Cursor as a state: contracts without cases. -/
namespace Go.Proofs.Ytgekpghjlhcpkaa
open Go.RowKit Pl Go.Agg
/-- a cursor at g, of a state -/
def CuS (base g : Nat) (w : World) (s : Option (List UInt8)) : Prop := ∃ v r e, CuV base g w v r e ∧ (e ≠ 0 → v = .slice none 0 0 ∧ r = []) ∧ s = (if e = 0 then some r else none)
theorem CuS.good {base g : Nat} {w : World} {v : Value} {r : List UInt8} (h : CuV base g w v r 0) : CuS base g w (some r) := ⟨v, r, 0, h, fun h => absurd rfl h, rfl⟩
theorem CuS.bad {base g : Nat} {w : World} (h : CBad base g w) : CuS base g w none := by
  obtain ⟨e, he, h⟩ := h
  exact ⟨_, _, e, h, fun _ => ⟨rfl, rfl⟩, by rw [if_neg he]⟩
theorem CuS.below {base g : Nat} {w w' : World} {s : Option (List UInt8)} (h : CuS base g w s) (hb : Below w.heap.size w w') : CuS base g w' s := by
  obtain ⟨v, r, e, h, h1, h2⟩ := h
  exact ⟨v, r, e, h.below hb, h1, h2⟩
theorem CuS.lt {base g : Nat} {w : World} {s : Option (List UInt8)} (h : CuS base g w s) : g < w.heap.size := by
  obtain ⟨v, r, e, h, _⟩ := h
  exact h.blk.lt
theorem getN_nil (most : Nat) : getN most [] = none := by
  unfold getN
  rw [if_pos (.inl rfl)]
theorem getT_nil (most : Nat) : getT most [] = none := by
  unfold getT
  rw [getN_nil]
theorem snum_any (base g most : Nat) (s : Option (List UInt8)) (w : World) (hl : stLen s ≤ 16777216) (hmo : most ≤ 1099511627776) (h : CuS base g w s) :
    Calls Try.prog 52 #[.pointer (some ⟨g, 0, none⟩), .int .i64 (most : Int)] w fun x w' => x = .returned (.int .i64 ((sNum most s).1 : Int)) ∧ CuS base g w' (sNum most s).2 ∧ Only (· = g) w w' := by
  obtain ⟨v, r, e, hv, hbad, rfl⟩ := h
  by_cases h0 : e = 0
  · subst h0
    refine (cnum_any base g most v r 0 w (by simpa [stLen] using hl) hmo hv).mono ?_
    rintro x w' ⟨hc, ho⟩
    rcases hc with ⟨n, y, v', hg, rfl, hcu⟩ | ⟨hg, rfl, hcu⟩
    · simp only [if_true, sNum, hg]
      exact ⟨trivial, CuS.good hcu, ho⟩
    · simp only [if_true, sNum, hg] at hcu ⊢
      exact ⟨rfl, CuS.bad ⟨4, by omega, hcu⟩, ho⟩
  · obtain ⟨rfl, rfl⟩ := hbad h0
    refine (cnum_any base g most _ [] e w (by simp) hmo hv).mono ?_
    rintro x w' ⟨hc, ho⟩
    rcases hc with ⟨n, y, v', hg, rfl, hcu⟩ | ⟨hg, rfl, hcu⟩
    · rw [getN_nil] at hg; cases hg
    · simp only [if_neg h0, sNum] at hcu ⊢
      exact ⟨rfl, CuS.bad ⟨e, h0, hcu⟩, ho⟩
theorem sraw_any (base g many : Nat) (s : Option (List UInt8)) (w : World) (hl : stLen s ≤ 16777216) (hmo : many ≤ 1099511627776) (h : CuS base g w s) :
    Calls Try.prog 70 #[.pointer (some ⟨g, 0, none⟩), .int .i64 (many : Int)] w fun x w' => ∃ u, x = .returned u ∧ Own EB w.heap.size w' u (sRaw many s).1 ∧ CuS base g w' (sRaw many s).2 ∧ Only (· = g) w w' := by
  obtain ⟨v, r, e, hv, hbad, rfl⟩ := h
  by_cases h0 : e = 0
  · subst h0
    refine (craw_any base g many v r 0 w (by simpa [stLen] using hl) hmo hv).mono ?_
    rintro x w' ⟨hc, ho⟩
    rcases hc with ⟨_, hle, u, v', rfl, hu, hcu⟩ | ⟨hor, rfl, hcu⟩
    · simp only [if_true, sRaw, if_pos hle]
      exact ⟨u, rfl, hu, CuS.good hcu, ho⟩
    · have hle : ¬ many ≤ r.length := by rcases hor with h | h <;> omega
      simp only [if_true, sRaw, if_neg hle]
      exact ⟨_, rfl, Own.nil _ _ _, CuS.bad hcu, ho⟩
  · obtain ⟨rfl, rfl⟩ := hbad h0
    refine (craw_any base g many _ [] e w (by simp) hmo hv).mono ?_
    rintro x w' ⟨hc, ho⟩
    rcases hc with ⟨h, _⟩ | ⟨hor, rfl, hcu⟩
    · exact absurd h h0
    · simp only [if_neg h0, sRaw]
      exact ⟨_, rfl, Own.nil _ _ _, CuS.bad hcu, ho⟩
theorem stext_any (base g most : Nat) (s : Option (List UInt8)) (w : World) (hl : stLen s ≤ 16777216) (h : CuS base g w s) :
    Calls Try.prog 54 #[.pointer (some ⟨g, 0, none⟩), .int .i64 (most : Int)] w fun x w' => ∃ u, x = .returned u ∧ Own EB w.heap.size w' u (sText most s).1 ∧ CuS base g w' (sText most s).2 ∧ Only (· = g) w w' := by
  obtain ⟨v, r, e, hv, hbad, rfl⟩ := h
  by_cases h0 : e = 0
  · subst h0
    refine (ctext_any base g most v r 0 w (by simpa [stLen] using hl) (fun h => absurd rfl h) hv).mono ?_
    rintro x w' ⟨hc, ho⟩
    rcases hc with ⟨_, l, y, u, v', hg, rfl, hu, hcu⟩ | ⟨hor, rfl, hcu⟩
    · simp only [if_true, sText, hg]
      exact ⟨u, rfl, hu, CuS.good hcu, ho⟩
    · have hg : getT most r = none := hor.elim (fun h => absurd rfl h) id
      simp only [if_true, sText, hg]
      exact ⟨_, rfl, Own.nil _ _ _, CuS.bad hcu, ho⟩
  · obtain ⟨rfl, rfl⟩ := hbad h0
    refine (ctext_any base g most _ [] e w (by simp) (fun _ => rfl) hv).mono ?_
    rintro x w' ⟨hc, ho⟩
    rcases hc with ⟨h, _⟩ | ⟨hor, rfl, hcu⟩
    · exact absurd h h0
    · simp only [if_neg h0, sText]
      exact ⟨_, rfl, Own.nil _ _ _, CuS.bad hcu, ho⟩
theorem send_any (base g : Nat) (s : Option (List UInt8)) (w : World) (h : CuS base g w s) :
    Calls Try.prog 55 #[.pointer (some ⟨g, 0, none⟩)] w fun x w' => (∃ c : Nat, x = .returned (.int .i64 (c : Int)) ∧ (c = 0 ↔ s = some [])) ∧ w' = w := by
  obtain ⟨v, r, e, hv, hbad, rfl⟩ := h
  refine (cend_any base g v r e w hv).mono ?_
  rintro x w' ⟨⟨c, rfl, hc⟩, rfl⟩
  refine ⟨⟨c, rfl, ?_⟩, rfl⟩
  rw [hc]
  by_cases h0 : e = 0
  · simp [h0]
  · simp [h0]
end Go.Proofs.Ytgekpghjlhcpkaa
/-! A cursor, where other blocks are written. -/
namespace Go.Proofs.Ytgekpghjlhcpkaa
open Go.RowKit Pl Go.Agg
theorem CuS.keep {base gc : Nat} {w w' : World} {s : Option (List UInt8)} {S : Nat → Prop} (h : CuS base gc w s) (ho : Only S w w') (hS : ¬ S gc) (hr : ∀ k, S k → k < w.heap.size → ∀ cur fr, w.heap[k]? ≠ some (Obj.cells cur 5 fr)) : CuS base gc w' s := by
  obtain ⟨v, r, e, hv, h1, h2⟩ := h
  refine ⟨v, r, e, ⟨hv.blk.only ho hS, restKeepT hv.rest fun k cur fr hk => (ho.block k (Agg.heap_lt hk) fun hs => hr k hs (Agg.heap_lt hk) cur fr hk).trans hk⟩, h1, h2⟩
section
variable {base gc : Nat} {w w' : World} {s : Option (List UInt8)}
theorem CuS.blk (h : CuS base gc w s) : ∃ cs, Blk w gc 126 cs := by
  obtain ⟨v, r, e, hv, _⟩ := h
  exact ⟨_, hv.blk⟩
/-- another block was written -/
theorem CuS.other {g : Nat} {t : TypeId} {cs : Array Value} (h : CuS base gc w s) (ho : Only (· = g) w w') (hb : Blk w g t cs) (h2 : t ≠ 126) (h3 : t ≠ 5) : CuS base gc w' s := by
  refine h.keep ho (fun e => ?_) fun k hk _ cur fr hc => ?_
  · subst e
    obtain ⟨cs', hb'⟩ := h.blk
    exact h2 (hb.type hb')
  · subst hk
    unfold Blk at hb
    rw [hb] at hc
    injection hc with hc
    injection hc with _ hc
    exact h3 hc
theorem CuS.pushed {α : Type} {E : Elem Try.prog α} {B : Nat} {v : Value} (h : CuS base gc w s) (hp : Pushed E B w w' v) (h2 : 126 ≠ E.ty) (h3 : 5 ≠ E.ty) : CuS base gc w' s := by
  obtain ⟨v, r, e, hv, h4, h5⟩ := h
  exact ⟨v, r, e, ⟨hp.blk gc _ _ _ h2 hv.blk, restKeepT hv.rest fun k cur fr hk => hp.blk k _ _ _ h3 hk⟩, h4, h5⟩
end
end Go.Proofs.Ytgekpghjlhcpkaa
