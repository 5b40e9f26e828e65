/- wire.RightReply. (Several texts in one.) -/
import Derived.Test.YtpnolgliklmnmaaGreatQAK
import Derived.Test.YtpnolgliklmnmaaGreatQAN
import Derived.Test.YtpnolgliklmnmaaGreatQAO
import Derived.Deep.RegionLaw
import Derived.Deep.RegionHeld3
import Derived.Test.YtpnolgliklmnmaaGreatQAG
import Derived.Test.YtpnolgliklmnmaaGreatQAJ
/-! wire.getter: path, hash, ok. -/
namespace Go.Proofs.YtpnolgliklmnmaaGreat
open Go.RowKit Pl Go.Agg
theorem CuS.keep {base gc : Nat} {w w' : World} {s : Option (List UInt8)} {S : Nat → Prop} (h : CuS base gc w s) (ho : Only S w w') (hS : ¬ S gc) (hr : ∀ k, S k → k < w.heap.size → ∀ cur fr, w.heap[k]? ≠ some (Obj.cells cur 5 fr)) : CuS base gc w' s := by
  obtain ⟨v, r, e, hv, h1, h2⟩ := h
  refine ⟨v, r, e, ⟨hv.blk.only ho hS, restKeepT hv.rest fun k cur fr hk => (ho.block k (Agg.heap_lt hk) fun hs => hr k hs (Agg.heap_lt hk) cur fr hk).trans hk⟩, h1, h2⟩
theorem CuS.ne_int {base gc : Nat} {w : World} {s : Option (List UInt8)} {b : Nat} {k : IntKind} {m : Int} (h : CuS base gc w s) (hm : w.cell? ⟨b, 0, none⟩ = some (.int k m)) : b ≠ gc := by
  rintro rfl
  obtain ⟨v, r, e, hv, _⟩ := h
  obtain ⟨p, c, hf⟩ := hv.rest.slice.form
  rw [hv.blk.cell, hf] at hm
  simp [cuC] at hm
def gtC (gc : Nat) (odd : Bool) : Array Value := #[.pointer (some ⟨gc, 0, none⟩), .bool odd]
/-- a getter at gg, its cursor at gc -/
structure GtV (base gg gc : Nat) (w : World) (s : Option (List UInt8)) (odd : Bool) : Prop where
  blk : Blk w gg 89 (gtC gc odd)
  cur : CuS base gc w s
section
variable {base gg gc : Nat} {w w' : World} {s s' : Option (List UInt8)} {odd : Bool}
theorem CuS.blk (h : CuS base gc w s) : ∃ cs, Blk w gc 142 cs := by
  obtain ⟨v, r, e, hv, _⟩ := h
  exact ⟨_, hv.blk⟩
theorem GtV.ne (h : GtV base gg gc w s odd) : gg ≠ gc := by
  rintro rfl
  obtain ⟨cs, hb⟩ := h.cur.blk
  exact absurd (h.blk.type hb) (by decide)
theorem GtV.ptr (h : GtV base gg gc w s odd) : LoadsL Tryz.prog w 86 (some ⟨gg, 0, none⟩) (.pointer (some ⟨gc, 0, none⟩)) :=
  h.blk.one (P := Tryz.prog) 0 rfl Tryz.underlying86 rfl
theorem GtV.oddL (h : GtV base gg gc w s odd) : LoadsL Tryz.prog w 4 (some ⟨gg, 1, none⟩) (.bool odd) :=
  h.blk.one (P := Tryz.prog) 1 rfl Tryz.underlying4 rfl
theorem GtV.below (h : GtV base gg gc w s odd) (hb : Below w.heap.size w w') : GtV base gg gc w' s odd := ⟨h.blk.below hb, h.cur.below hb⟩
/-- the cursor went on -/
theorem GtV.step (h : GtV base gg gc w s odd) (ho : Only (· = gc) w w') (hc : CuS base gc w' s') : GtV base gg gc w' s' odd := ⟨h.blk.only ho h.ne, hc⟩
/-- another block was written -/
theorem GtV.other {g : Nat} {t : TypeId} {cs : Array Value} (h : GtV base gg gc w s odd) (ho : Only (· = g) w w') (hb : Blk w g t cs) (h1 : t ≠ 89) (h2 : t ≠ 142) (h3 : t ≠ 5) : GtV base gg gc w' s odd := by
  refine ⟨h.blk.only ho fun e => h1 ?_, h.cur.keep ho (fun e => ?_) fun k hk _ cur fr hc => ?_⟩
  · subst e; exact hb.type h.blk
  · subst e
    obtain ⟨cs', hb'⟩ := h.cur.blk
    exact h2 (hb.type hb')
  · subst hk
    unfold Blk at hb
    rw [hb] at hc
    injection hc with hc
    injection hc with _ hc
    exact h3 hc
/-- its mark written -/
theorem GtV.mark (h : GtV base gg gc w s odd) (b : Bool) : ∃ w', (Instr.storeAt 4 (.pointer (some ⟨gg, 1, none⟩)) (.bool b)).run Tryz.prog w = .ok () w' ∧ GtV base gg gc w' s b ∧ Only (· = gg) w w' := by
  have ho : Only (· = gg) w (w.setCell ⟨gg, 1, none⟩ (.bool b)) := ⟨rfl, rfl, rfl, by simp [World.setCell], fun k _ hk => Below.heap_setCell _ _ _ _ hk⟩
  refine ⟨_, h.blk.run_put 1 (by simp [gtC]) _ rfl rfl (by kernel_rfl), ⟨h.blk.set 1 _, h.cur.keep ho (fun e => h.ne e.symm) fun k hk _ cur fr hc => ?_⟩, ho⟩
  subst hk
  have hb := h.blk
  unfold Blk at hb
  rw [hb] at hc
  injection hc with hc
  injection hc with _ hc
  exact absurd hc (by decide)
end
theorem textOdd_nil : textOdd [] = false := rfl
set_option maxRecDepth 100000 in
set_option maxHeartbeats 2000000 in
theorem gpath_any (base gg gc : Nat) (s : Option (List UInt8)) (odd : Bool) (m : Int) (w : World) (hl : stLen s ≤ 16777216) (hm : w.cell? ⟨0, 0, none⟩ = some (.int .i64 m)) (h : GtV base gg gc w s odd) :
    Calls Tryz.prog 54 #[.pointer (some ⟨gg, 0, none⟩)] w fun e w' => e = .returned (.agg (pC (parseH (sText 57 s).1) (parseN (sText 57 s).1))) ∧ GtV base gg gc w' (sText 57 s).2 (odd || textOdd (sText 57 s).1) ∧ Only (fun k => k = gc ∨ k = gg) w w' := by
  have hle := sText_le 57 s
  obtain ⟨l, s', hls⟩ : ∃ l s', sText 57 s = (l, s') := ⟨_, _, rfl⟩
  simp only [hls] at hle ⊢
  have HLS := Lib.hid hls
  clear hls
  have HG := Lib.hid h
  have HM := Lib.hid hm
  have hbm := block_lt_of_cell hm
  clear h hm
  go_enter Tryz.func54, Tryz.ntmps54
  go_wp2_with (first | (with_reducible refine Agg.wpList_zero rfl 27 rfl (pC z20 []) pC_zero ?_; intro g w1 hb hx hg; have HB := Lib.hid hb; have HX := Lib.hid hx; have HG := Lib.hid (HG.out.below hx); clear hb hx) | (with_reducible refine Agg.wpList_loadL HG.out.ptr rfl _ rfl rfl ?_))
  refine (stext_any base gc 57 s _ hl HG.out.cur).mono ?_
  rintro x w2 ⟨u, rfl, hu, hc, ho⟩
  rw [HLS.out] at hu hc
  have hm1 := (HX.out.cell hbm).trans HM.out
  have hne := HG.out.cur.ne_int hm1
  have hgc : g ≠ gc := by
    rintro rfl
    obtain ⟨cs, hb⟩ := HG.out.cur.blk
    exact absurd (HB.out.type hb) (by decide)
  have hgg : g ≠ gg := by
    rintro rfl
    exact absurd (HB.out.type HG.out.blk) (by decide)
  have HM2 := Lib.hid ((ho.cell (p := ⟨0, 0, none⟩) (block_lt_of_cell hm1) hne).trans hm1)
  have HG2 := Lib.hid (HG.out.step ho hc)
  have HB2 := Lib.hid (HB.out.only ho hgc)
  have HU := Lib.hid hu.slice
  have hlu := fun W => bytes_len hu.slice W
  have HON := Lib.hid ((Only.of_below (S := fun k => k = gc ∨ k = gg) HX.out).trans ho fun i _ h => .inl h)
  clear hu hc ho hm1 hne
  by_cases h0 : l = []
  · subst h0
    go_wp2_with (first | (with_reducible refine Agg.wpList_build0 27 rfl rfl (.agg (pC z20 [])) build_p0 ?_) | (refine Agg.wpList_put rfl rfl 27 _ _ rfl g (pC z20 []) (pC z20 []) rfl rfl HB2.out (pC_info _ _ z20_length) rfl (pC_one _ _) ?_; intro w3 hb3 hx3 hs3 hk3))
    have ho3 : Only (· = g) w2 w3 := Only.of_eq hx3 hs3 hk3 rfl
    exact Agg.post_row rfl rfl hb3 pC_under rfl (pC_info _ _ z20_length) rfl ⟨by simp [parseH, parseN, parse_nil], by simpa [textOdd_nil] using HG2.out.other ho3 HB2.out (by decide) (by decide) (by decide), HON.out.trans ho3 fun i hi h => by omega⟩
  · have hemp : l.isEmpty = false := by cases l <;> simp_all
    have hpos : 0 < l.length := List.length_pos_iff.2 h0
    clear h0
    have hq : ((l.length : Int) == 0) = false := by rw [beq_eq_false_iff_ne]; omega
    go_wp2_with (first | (with_reducible refine wpList_toStr HU.out _ rfl (by kernel_rfl) rfl ?_))
    refine (parse_any l (by omega) m _ HM2.out).mono ?_
    rintro e w3 ⟨rfl, hx3⟩
    have HG3 := Lib.hid (HG2.out.below hx3)
    have HB3 := Lib.hid (HB2.out.below hx3)
    have HON3 := Lib.hid (HON.out.trans (Only.of_below (S := fun k => k = gc ∨ k = gg) hx3) fun _ _ h => h)
    have HPL := Lib.hid (parseH_length l)
    obtain ⟨e, b, he, hb, hcase⟩ : ∃ e b, parseE l = e ∧ textOdd l = b ∧ ((e = 0 ∧ b = false) ∨ (e = 4 ∧ b = true)) := by
      refine ⟨_, _, rfl, rfl, ?_⟩
      unfold parseE textOdd
      cases l with
      | nil => exact absurd hemp (by decide)
      | cons c t => cases (parse (c :: t)) <;> simp
    rw [he]
    have HOD := Lib.hid hb
    clear hx3 he hb HG HG2 HB HB2
    rcases hcase with ⟨rfl, rfl⟩ | ⟨rfl, rfl⟩
    all_goals
      cases odd
      all_goals
        go_wp2_with (first | (refine Agg.wpList_new rfl rfl rfl 27 4 19 rfl rfl rfl (by decide) (pC z20 []) (pC (parseH l) (parseN l)) pC_zero (by rw [pC_size, pC_size, HPL.out]; rfl) (pC_info _ _ HPL.out) (pC_one _ _) rfl (by simp) ?_; intro g4 w4 hb4 hx4 hg4; have HB4 := Lib.hid hb4; have HX4 := Lib.hid hx4; have HG4 := Lib.hid (HG3.out.below hx4); have HR4 := Lib.hid (HB3.out.below hx4); have hg4g : g4 ≠ gg := fun e => by { have := HG3.out.blk.lt; omega }; clear hb4 hx4) | (with_reducible refine Agg.wpList_loadL HG4.out.oddL rfl _ rfl rfl ?_) | (obtain ⟨w5, hrun, hg5, ho5⟩ := HG4.out.mark _; refine Agg.wpList_store rfl rfl 4 _ _ rfl (.pointer (some ⟨gg, 1, none⟩)) _ rfl rfl hrun ?_; have HG5 := Lib.hid hg5; have HB5 := Lib.hid (HB4.out.only ho5 hg4g); have HR5 := Lib.hid (HR4.out.only ho5 hgg); have HO5 := Lib.hid ho5; clear hg5 ho5 hrun HG4) | (with_reducible refine Agg.wpList_loadL (HB5.out.loads (P := Tryz.prog) pC_under rfl (pC_info _ _ HPL.out)) rfl _ rfl rfl ?_) | (refine Agg.wpList_put rfl rfl 27 _ _ rfl g (pC (parseH l) (parseN l)) (pC z20 []) rfl rfl HR5.out (pC_info _ _ HPL.out) (by rw [pC_size, pC_size, HPL.out]; rfl) (pC_one _ _) ?_; intro w6 hb6 hx6 hs6 hk6))
        have ho6 : Only (· = g) w5 w6 := Only.of_eq hx6 hs6 hk6 rfl
        exact Agg.post_row rfl rfl hb6 pC_under rfl (pC_info _ _ HPL.out) rfl ⟨rfl, by rw [HOD.out]; simpa using HG5.out.other ho6 HR5.out (by decide) (by decide) (by decide), ((HON3.out.trans (Only.of_below (S := fun _ => False) HX4.out) (fun _ _ h => h.elim)).trans HO5.out (fun i _ h => .inr h)).trans ho6 fun i hi h => by omega⟩
set_option maxRecDepth 100000 in
set_option maxHeartbeats 2000000 in
theorem ghash_any (base gg gc : Nat) (s : Option (List UInt8)) (odd : Bool) (w : World) (hl : stLen s ≤ 16777216) (h : GtV base gg gc w s odd) :
    Calls Tryz.prog 55 #[.pointer (some ⟨gg, 0, none⟩)] w fun e w' => e = .returned (.agg (hC (sHash s).1)) ∧ GtV base gg gc w' (sHash s).2 odd ∧ Only (fun k => k = gc) w w' := by
  have HG := Lib.hid h
  clear h
  go_enter Tryz.func55, Tryz.ntmps55
  go_wp2_with (first | (with_reducible refine Agg.wpList_zero rfl 25 rfl (hC z20) z20_zero ?_; intro g w1 hb hx hg; have HB := Lib.hid hb; have HX := Lib.hid hx; have HG1 := Lib.hid (HG.out.below hx); clear hb hx))
  have hgc : g ≠ gc := by
    rintro rfl
    obtain ⟨cs, hb⟩ := HG1.out.cur.blk
    exact absurd (HB.out.type hb) (by decide)
  have hgg : g ≠ gg := by
    rintro rfl
    exact absurd (HB.out.type HG1.out.blk) (by decide)
  have hsl : ∀ W, (Instr.sliceAt 25 (.pointer (some ⟨g, 0, none⟩)) none none none).run Tryz.prog W = .ok (.slice (some ⟨g, 0, none⟩) 20 20) W := fun W => by kernel_rfl
  have hcell : w1.cell? ⟨gg, 0, none⟩ = some (.pointer (some ⟨gc, 0, none⟩)) := by rw [HG1.out.blk.cell]; rfl
  have hraw : (sRaw 20 s).1.length ≤ 20 := by
    cases s with
    | none => simp [sRaw]
    | some r => simp only [sRaw]; split <;> simp <;> omega
  have hz : (Lib.byteCells z20).length = 20 := rfl
  go_region_held3 (fun w' => w'.cell? ⟨gg, 0, none⟩ = some (.pointer (some ⟨gc, 0, none⟩))) (first | assumption | go_keep)
    (first
      | (go_at_call 88; refine (sraw_any base gc 20 s _ hl (by omega) (HG1.out.below ((Below.refl _ _).drew)).cur).mono ?_; rintro e w2 ⟨u, rfl, hu, hc, ho⟩; have ho12 : Only (· = gc) w1 w2 := (Only.of_below (S := fun k => k = gc) ((Below.refl w1.heap.size w1).drew)).trans ho (fun _ _ h => h); have HG2 := Lib.hid (HG1.out.step ho12 hc); have HB2 := Lib.hid (HB.out.only ho12 hgc); have hcell2 : w2.cell? ⟨gg, 0, none⟩ = some (.pointer (some ⟨gc, 0, none⟩)) := (by rw [HG2.out.blk.cell]; rfl); have HU2 := Lib.hid hu.slice; have HO2 := Lib.hid ho12; clear hu hc ho ho12)
      | (refine step_copyB (g := g) (n := 20) (cur := Lib.byteCells z20) rfl _ _ rfl rfl rfl HU2.out HB2.out hz hraw ?_; intro w3 hb3 ho3; have HG3 := Lib.hid (HG2.out.other ho3 HB2.out (by decide) (by decide) (by decide)); have hcell3 : w3.cell? ⟨gg, 0, none⟩ = some (.pointer (some ⟨gc, 0, none⟩)) := (by rw [HG3.out.blk.cell]; rfl); have HB3 := Lib.hid (show Blk w3 g 25 (hC (sHash s).1) from (by have e : Lib.byteCells (sRaw 20 s).1 ++ (Lib.byteCells z20).drop (sRaw 20 s).1.length = Lib.byteCells (sHash s).1 := (by simp [Lib.byteCells, sHash]); rw [e] at hb3; exact hb3)); have HO3 := Lib.hid ((HO2.out.mono (T := fun k => k = gc ∨ k = g) (fun _ _ h => .inl h)).trans ho3 (fun _ _ h => .inr h)); clear hb3 ho3))
  have HL20 := Lib.hid (sHash_length s)
  go_wp2_with (first | (with_reducible refine Agg.wpList_loadL (HB3.out.loads (P := Tryz.prog) Tryz.underlying25 rfl (hC_info _ HL20.out)) rfl _ rfl rfl ?_) | (refine Agg.wpList_put rfl rfl 25 _ _ rfl g (hC (sHash s).1) (hC (sHash s).1) rfl rfl HB3.out (hC_info _ HL20.out) rfl (hC_one _) ?_; intro w6 hb6 hx6 hs6 hk6))
  have ho6 : Only (· = g) w3 w6 := Only.of_eq hx6 hs6 hk6 rfl
  exact Agg.post_row rfl rfl hb6 Tryz.underlying25 rfl (hC_info _ HL20.out) rfl ⟨rfl, HG3.out.other ho6 HB3.out (by decide) (by decide) (by decide), ((Only.of_below (S := fun k => k = gc) HX.out).trans HO3.out (fun i hi h => h.elim id (fun h => by omega))).trans ho6 fun i hi h => by omega⟩
set_option maxRecDepth 100000 in
theorem gok_any (base gg gc : Nat) (s : Option (List UInt8)) (odd : Bool) (w : World) (h : GtV base gg gc w s odd) :
    Calls Tryz.prog 58 #[.pointer (some ⟨gg, 0, none⟩)] w fun e w' => e = .returned (.bool (decide (s = some []) && !odd)) ∧ w' = w := by
  have HG := Lib.hid h
  clear h
  go_enter Tryz.func58, Tryz.ntmps58
  go_wp2_with (first | (with_reducible refine Agg.wpList_loadL HG.out.ptr rfl _ rfl rfl ?_))
  refine (send_any base gc s _ HG.out.cur).mono ?_
  rintro x w' ⟨⟨c, rfl, hc⟩, rfl⟩
  by_cases h0 : c = 0
  · subst h0
    obtain rfl := hc.1 rfl
    clear hc
    cases odd
    all_goals
      go_wp2_with (first | (with_reducible refine Agg.wpList_loadL HG.out.oddL rfl _ rfl rfl ?_))
      go_ret
      exact ⟨rfl, rfl⟩
  · have hs : ¬ s = some [] := fun e => h0 (hc.2 e)
    have HD := Lib.hid (decide_eq_false hs)
    have hq : ((c : Int) == 0) = false := by rw [beq_eq_false_iff_ne]; omega
    clear hc h0 hs
    go_wp2_with fail
    go_ret
    exact ⟨by rw [HD.out]; rfl, rfl⟩
end Go.Proofs.YtpnolgliklmnmaaGreat
/-! What is got, while it is got: the result's block beside getter and cursor. -/
namespace Go.Proofs.YtpnolgliklmnmaaGreat
open Go.RowKit Pl Go.Agg
/-- the result at gr, of type t; a getter at gg, its cursor at gc -/
structure GeS (t : TypeId) (w0 : World) (base gr gg gc : Nat) (w : World) (s : Option (List UInt8)) (odd : Bool) (cells : Array Value) : Prop where
  gt : GtV base gg gc w s odd
  blk : Blk w gr t cells
  below : Below w0.heap.size w0 w
  nc : gr ≠ gc
  ng : gr ≠ gg
  gr_ge : w0.heap.size ≤ gr
  gg_ge : w0.heap.size ≤ gg
  gc_ge : w0.heap.size ≤ gc
section
variable {t : TypeId} {w0 w w' : World} {base gr gg gc : Nat} {s s' : Option (List UInt8)} {odd odd' : Bool} {cells cells' : Array Value}
theorem GeS.step (h : GeS t w0 base gr gg gc w s odd cells) (ho : Only (· = gc) w w') (hc : CuS base gc w' s') : GeS t w0 base gr gg gc w' s' odd cells :=
  ⟨h.gt.step ho hc, h.blk.only ho h.nc, h.below.trans (ho.below h.below.size fun _ e => e ▸ h.gc_ge), h.nc, h.ng, h.gr_ge, h.gg_ge, h.gc_ge⟩
theorem GeS.stepG (h : GeS t w0 base gr gg gc w s odd cells) {S : Nat → Prop} (ho : Only S w w') (hS : ∀ k, S k → k = gc ∨ k = gg) (hg : GtV base gg gc w' s' odd') : GeS t w0 base gr gg gc w' s' odd' cells :=
  ⟨hg, h.blk.only ho fun e => (hS _ e).elim h.nc h.ng, h.below.trans (ho.below h.below.size fun k e => (hS k e).elim (fun e => e ▸ h.gc_ge) (fun e => e ▸ h.gg_ge)), h.nc, h.ng, h.gr_ge, h.gg_ge, h.gc_ge⟩
theorem GeS.store (h : GeS t w0 base gr gg gc w s odd cells) (hb : Blk w' gr t cells') (ho : Only (· = gr) w w') (h1 : t ≠ 89) (h2 : t ≠ 142) (h3 : t ≠ 5) : GeS t w0 base gr gg gc w' s odd cells' :=
  ⟨h.gt.other ho h.blk h1 h2 h3, hb, h.below.trans (ho.below h.below.size fun _ e => e ▸ h.gr_ge), h.nc, h.ng, h.gr_ge, h.gg_ge, h.gc_ge⟩
theorem GeS.later (h : GeS t w0 base gr gg gc w s odd cells) (hb : Below w.heap.size w w') : GeS t w0 base gr gg gc w' s odd cells :=
  ⟨h.gt.below hb, h.blk.below hb, Agg.belowThen h.below (Nat.le_refl _) hb, h.nc, h.ng, h.gr_ge, h.gg_ge, h.gc_ge⟩
theorem GeS.cell (h : GeS t w0 base gr gg gc w s odd cells) {p : Addr} {v : Value} (hc : w0.cell? p = some v) : w.cell? p = some v := (h.below.cell (block_lt_of_cell hc)).trans hc
theorem gt_build (gc : Nat) (W : World) : (Instr.build 89 #[(0, .pointer (some ⟨gc, 0, none⟩))]).run Tryz.prog W = .ok (.agg (gtC gc false)) W := by kernel_rfl
end
/-- a text of its own, behind what was there -/
theorem own_keep {base : Nat} {w w' : World} {v : Value} {l : List UInt8} {S : Nat → Prop} (h : Own EB base w v l) (ho : Only S w w') (hS : ∀ k, S k → k < base) : Own EB base w' v l :=
  h.keep fun g cur t fr hg hk => (ho.block g (Agg.heap_lt hk) fun e => by have := hS g e; omega).trans hk
theorem own_keepT {base g : Nat} {w w' : World} {v : Value} {l : List UInt8} {t : TypeId} {cs : Array Value} (h : Own EB base w v l) (ho : Only (· = g) w w') (hb : Blk w g t cs) (ht : t ≠ 5) : Own EB base w' v l := by
  refine h.keepT fun k cur fr hk => ?_
  refine (ho.block k (Agg.heap_lt hk) fun e => ht ?_).trans hk
  subst e
  unfold Blk at hb
  rw [hb] at hk
  injection hk with hk
  injection hk with _ hk
theorem rq_zero : (Tryz.prog.info? 29).map (·.zero) = some (some (.agg (rqG 0 0 0 [] (.slice none 0 0) z20 [] z20))) := by kernel_rfl
theorem rq_info {k u wh : Int} {nm : List UInt8} {vb : Value} {ph pn ch : List UInt8} (hl : ph.length = 20) (hc : ch.length = 20) : (Tryz.prog.info? 29).map (·.size) = some (rqG k u wh nm vb ph pn ch).size := by rw [rqG_size hl hc]; kernel_rfl
theorem rq_under : Tryz.prog.underlying 29 = some (.struct (Tryz.prog.fieldsOf 29)) := by kernel_rfl
theorem rq_build0 (W : World) : (Instr.build 29 #[]).run Tryz.prog W = .ok (.agg (rqG 0 0 0 [] (.slice none 0 0) z20 [] z20)) W := by kernel_rfl
theorem rq_one {w : World} {vb : Value} {bs : List UInt8} (h : BytesAt w vb bs) (k u wh : Int) (nm ph pn ch : List UInt8) : (rqG k u wh nm vb ph pn ch).all (·.oneCell') = true := by
  have h1 := pC_one ph pn
  have h2 := hC_one ch
  obtain ⟨p, c, hf⟩ := h.form
  subst hf
  simp only [rqG, rqH, Array.all_append, h1, h2]
  simp [Value.oneCell']
/-- what Get tells -/
def rqOut (b : List UInt8) : Rq := (getRq b).getD Rq.zero
def rqErr (b : List UInt8) : Nat := if (getRq b).isSome then 0 else 4
theorem get_parts {b : List UInt8} {k u wh P : Nat} {s1 s2 s3 s4 s5 s6 s7 : Option (List UInt8)} {nm t ch bs : List UInt8} (h1 : sNum 10 (some b) = (k, s1)) (hP : partsN (k : Int) = P) (h2 : sNum 8 s1 = (u, s2)) (h3 : pW P s2 = (wh, s3)) (h4 : pN P s3 = (nm, s4)) (h5 : pT P s4 = (t, s5))
    (h6 : pH P s5 = (ch, s6)) (h7 : pB P (mostN (k : Int)) s6 = (bs, s7)) :
    getRq b = if s7 = some [] ∧ textOdd t = false ∧ rightN k u wh nm bs.length (parseH t) (parseN t) ch = true then some ⟨k, u, wh, nm, bs, parseH t, parseN t, ch⟩ else none := by
  have e1 : qK (some b) = (k, s1) := h1
  have eP : qP (some b) = P := by unfold qP; rw [e1]; exact hP
  have e2 : qU (some b) = (u, s2) := by unfold qU; rw [e1]; exact h2
  have e3 : qW (some b) = (wh, s3) := by unfold qW; rw [eP, e2]; exact h3
  have e4 : qN (some b) = (nm, s4) := by unfold qN; rw [eP, e3]; exact h4
  have e5 : qT (some b) = (t, s5) := by unfold qT; rw [eP, e4]; exact h5
  have e6 : qH (some b) = (ch, s6) := by unfold qH; rw [eP, e5]; exact h6
  have e7 : qB mostN (some b) = (bs, s7) := by unfold qB; rw [eP, e1, e6]; exact h7
  have eo : qOdd (some b) = textOdd t := by unfold qOdd textOdd; rw [e5]
  have er : qRq mostN (some b) = ⟨k, u, wh, nm, bs, parseH t, parseN t, ch⟩ := by unfold qRq; rw [e1, e2, e3, e4, e5, e6, e7]
  unfold getRq
  rw [e7, eo, er]
  rfl
theorem rqOut_some {b : List UInt8} {q : Rq} (h : getRq b = some q) : rqOut b = q ∧ rqErr b = 0 := by simp [rqOut, rqErr, h]
theorem rqOut_none {b : List UInt8} (h : getRq b = none) : rqOut b = Rq.zero ∧ rqErr b = 4 := by simp [rqOut, rqErr, h]
end Go.Proofs.YtpnolgliklmnmaaGreat
/-! What the document's Get reads, while it is read. -/
namespace Go.Proofs.YtpnolgliklmnmaaGreat
open Go.RowKit Pl Go.Agg
/-- what is read at gr, of type t; what is told at g0; the document's cursor at gc -/
structure GeR (t : TypeId) (w0 : World) (base g0 gr gc : Nat) (w : World) (s : Option (List UInt8)) (z cells : Array Value) : Prop where
  cur : CrS base gc w s
  zero : Blk w g0 t z
  blk : Blk w gr t cells
  below : Below w0.heap.size w0 w
  nc : gr ≠ gc
  zc : g0 ≠ gc
  zr : g0 ≠ gr
  g0_ge : w0.heap.size ≤ g0
  gr_ge : w0.heap.size ≤ gr
  gc_ge : w0.heap.size ≤ gc
section
variable {t : TypeId} {w0 w w' : World} {base g0 gr gc : Nat} {s s' : Option (List UInt8)} {z cells cells' : Array Value}
theorem GeR.step (h : GeR t w0 base g0 gr gc w s z cells) (ho : Only (· = gc) w w') (hc : CrS base gc w' s') : GeR t w0 base g0 gr gc w' s' z cells :=
  ⟨hc, h.zero.only ho h.zc, h.blk.only ho h.nc, h.below.trans (ho.below h.below.size fun _ e => e ▸ h.gc_ge), h.nc, h.zc, h.zr, h.g0_ge, h.gr_ge, h.gc_ge⟩
theorem GeR.store (h : GeR t w0 base g0 gr gc w s z cells) (hb : Blk w' gr t cells') (ho : Only (· = gr) w w') (h2 : t ≠ 97) (h3 : t ≠ 5) : GeR t w0 base g0 gr gc w' s z cells' :=
  ⟨h.cur.keep ho h.blk h2 h3, h.zero.only ho h.zr, hb, h.below.trans (ho.below h.below.size fun _ e => e ▸ h.gr_ge), h.nc, h.zc, h.zr, h.g0_ge, h.gr_ge, h.gc_ge⟩
theorem GeR.later (h : GeR t w0 base g0 gr gc w s z cells) (hb : Below w.heap.size w w') : GeR t w0 base g0 gr gc w' s z cells :=
  ⟨h.cur.below hb, h.zero.below hb, h.blk.below hb, Agg.belowThen h.below (Nat.le_refl _) hb, h.nc, h.zc, h.zr, h.g0_ge, h.gr_ge, h.gc_ge⟩
end
theorem GeR.own0 {t : TypeId} {w0 w : World} {base g0 gr gc : Nat} {s : Option (List UInt8)} {z cells : Array Value} (_h : GeR t w0 base g0 gr gc w s z cells) : Own EB w0.heap.size w (.slice none 0 0) [] := Own.nil _ _ _
theorem cr_build {v : Value} (hv : ∃ p n c, v = .slice p n c) (W : World) : (Instr.build 97 #[(0, v)]).run Tryz.prog W = .ok (.agg (cuC v 0)) W := by
  obtain ⟨p, n, c, rfl⟩ := hv
  kernel_rfl
theorem rq_build1 (k : Int) (W : World) : (Instr.build 29 #[(0, .int .i64 k)]).run Tryz.prog W = .ok (.agg (rqG k 0 0 [] (.slice none 0 0) z20 [] z20)) W := by kernel_rfl
theorem wpList_copyR {ops : Array Oper} {rest : List Oper} {o : Oper} {a : Act} {w w' : World} {Q : Exit → Act → World → Prop} (hw : Region.wanted o (yielded ops a.tmps) = true) (d s : Operand)
    (ho : o.op = .call { callee := .builtin .copy, args := #[d, s], argTypes := #[23, 23] }) (x y r : Value) (hd : a.eval d = x) (hs : a.eval s = y)
    (hrun : (Builtin.copy_ #[23, 23] o.type #[x, y]).run Tryz.prog w = .ok r w') (h : wpList Tryz.prog ops Q rest (a.put o.dst r) w') : wpList Tryz.prog ops Q (o :: rest) a w := by
  refine wpList_valw hw ?_ h
  simp [execOp, ho, resolve, invoke, builtin, hd, hs, hrun]
/-- bytes copied into the middle of a block -/
theorem run_copyM {w : World} {g i n c0 : Nat} {t : TypeId} (A B C : Array Value) {u : Value} {l : List UInt8} (ty : TypeId) (hu : SliceOf EB w u l) (hb : Blk w g t (A ++ (B ++ C))) (hi : A.size = i) (hn : B.size = n) (hl : l.length ≤ n) :
    ∃ w', (Builtin.copy_ #[23, 23] ty #[.slice (some ⟨g, i, none⟩) n c0, u]).run Tryz.prog w = .ok (goInt l.length) w' ∧ Blk w' g t (A ++ ((Lib.byteCells l ++ B.toList.drop l.length).toArray ++ C)) ∧ Only (· = g) w w' := by
  have hund : Tryz.prog.underlying 23 = some (.slice 5) := by kernel_rfl
  have hsz : (Tryz.prog.info? 5).map (·.size) = some 1 := by kernel_rfl
  have hc : (Lib.byteCells l).length = l.length := by simp [Lib.byteCells]
  by_cases h0 : l.length = 0
  · obtain rfl : l = [] := List.length_eq_zero_iff.1 h0
    obtain ⟨p, c, hf⟩ := hu.form
    subst hf
    exact ⟨w, run_copy_none w _ _ _ 5 _ _ _ _ _ _ hund hsz (by simp), by simpa [Lib.byteCells] using hb, Only.refl _ _⟩
  · rcases hu with ⟨_, _, _, h1⟩ | ⟨q, c, rfl, hq, hcell⟩
    · exact absurd (by simp [h1]) h0
    · rw [flat_bytes] at hcell
      have hrun := run_copy_row (P := Tryz.prog) w 23 23 ty 5 g i n c0 q l.length c (A ++ (B ++ C)) t (Lib.byteCells l) hund hsz hb (by rw [hc]; exact (Nat.min_eq_left hl).symm) hcell (by simp only [hc, Array.size_append]; omega)
        (fun v hv => by
          simp only [Lib.byteCells, List.mem_map] at hv
          obtain ⟨b, _, rfl⟩ := hv
          rfl)
      rw [hc] at hrun
      refine ⟨_, hrun, ?_, rfl, rfl, rfl, by simp [World.setRow], fun k _ hk => setRow_other w g k _ hk⟩
      have h1 := setRow_heap w g (A ++ (B ++ C)) (List.take i (A ++ (B ++ C)).toList ++ Lib.byteCells l ++ List.drop (i + l.length) (A ++ (B ++ C)).toList).toArray t _ hb
      refine Eq.trans h1 ?_
      have e : (List.take i (A ++ (B ++ C)).toList ++ Lib.byteCells l ++ List.drop (i + l.length) (A ++ (B ++ C)).toList).toArray = A ++ ((Lib.byteCells l ++ B.toList.drop l.length).toArray ++ C) := by
        apply Array.ext'
        have hA : A.toList.length = i := by simpa using hi
        have hB : l.length ≤ B.toList.length := by simpa [hn] using hl
        simp only [Array.toList_append]
        rw [List.take_left' hA, ← List.drop_drop, List.drop_left' hA, List.drop_append_of_le_length hB]
        simp
      rw [e]
theorem rqB_copy {k u wh : Int} {nm : List UInt8} {vb : Value} {ph pn : List UInt8} {w : World} {b : Nat} (h : Blk w b 29 (rqG k u wh nm vb ph pn z20)) (hl : ph.length = 20) {x : Value} {l : List UInt8} (ty : TypeId) (hx : SliceOf EB w x l) (hle : l.length ≤ 20) :
    ∃ w', (Builtin.copy_ #[23, 23] ty #[.slice (some ⟨b, 26, none⟩) 20 20, x]).run Tryz.prog w = .ok (goInt l.length) w' ∧ Blk w' b 29 (rqG k u wh nm vb ph pn (l ++ z20.drop l.length)) ∧ Only (· = b) w w' := by
  have e1 : ∀ x, rqG k u wh nm vb ph pn x = (rqH k u wh nm vb ++ pC ph pn) ++ (hC x ++ #[]) := fun x => by simp only [rqG, Array.append_assoc, Array.append_empty]
  rw [e1] at h
  obtain ⟨w', h1, h2, h3⟩ := run_copyM (c0 := 20) _ _ _ ty hx h (i := 26) (by simp [pC_size, hl, rqH]) (n := 20) (by rw [hC_size]; rfl) hle
  refine ⟨w', h1, ?_, h3⟩
  rw [e1]
  have e : (Lib.byteCells l ++ (hC z20).toList.drop l.length).toArray = hC (l ++ z20.drop l.length) := by simp [Lib.byteCells, hC]
  rw [e] at h2
  exact h2
theorem sRaw_le (many : Nat) (s : Option (List UInt8)) : (sRaw many s).1.length ≤ many := by
  cases s with
  | none => simp [sRaw]
  | some r =>
    simp only [sRaw]
    split
    · simp; omega
    · simp
theorem parseN_le (t : List UInt8) : (parseN t).length ≤ 24 := by
  unfold parseN parse
  split
  · rename_i h
    rw [Bool.and_eq_true] at h
    have := isName_le h.2
    cases Pl.hash (cut1 45 t).1 <;> simp <;> omega
  · simp
/-- what is read is a request's when its own bytes are these -/
theorem get_partsD {b : List UInt8} {k u wh P : Nat} {s1 s2 s3 s4 s5 s6 s7 : Option (List UInt8)} {nm t ch bs : List UInt8} (h1 : sNum 10 (some b) = (k, s1)) (hP : partsN (k : Int) = P) (h2 : sNum 8 s1 = (u, s2)) (h3 : pW P s2 = (wh, s3)) (h4 : pN P s3 = (nm, s4)) (h5 : pT P s4 = (t, s5))
    (h6 : pH P s5 = (ch, s6)) (h7 : pB P 4096 s6 = (bs, s7)) :
    getRq b = if Rq.right ⟨k, u, wh, nm, bs, parseH t, parseN t, ch⟩ = true ∧ s7 = some [] ∧ putRq ⟨k, u, wh, nm, bs, parseH t, parseN t, ch⟩ = b then some ⟨k, u, wh, nm, bs, parseH t, parseN t, ch⟩ else none := by
  have e1 : qK (some b) = (k, s1) := h1
  have eP : qP (some b) = P := by unfold qP; rw [e1]; exact hP
  have e2 : qU (some b) = (u, s2) := by unfold qU; rw [e1]; exact h2
  have e3 : qW (some b) = (wh, s3) := by unfold qW; rw [eP, e2]; exact h3
  have e4 : qN (some b) = (nm, s4) := by unfold qN; rw [eP, e3]; exact h4
  have e5 : qT (some b) = (t, s5) := by unfold qT; rw [eP, e4]; exact h5
  have e6 : qH (some b) = (ch, s6) := by unfold qH; rw [eP, e5]; exact h6
  have e7 : qB (fun _ => 4096) (some b) = (bs, s7) := by unfold qB; rw [eP, e6]; exact h7
  have er : qRq (fun _ => 4096) (some b) = ⟨k, u, wh, nm, bs, parseH t, parseN t, ch⟩ := by unfold qRq; rw [e1, e2, e3, e4, e5, e6, e7]
  rw [← getRqD_eq (lim := fun _ => 4096) most_le b]
  unfold getRqD
  rw [e7, er]
end Go.Proofs.YtpnolgliklmnmaaGreat
/-! A reply's cells. -/
namespace Go.Proofs.YtpnolgliklmnmaaGreat
open Go.RowKit Pl Go.Agg
/-- a reply's cells -/
def rpG (e : Int) (ph pn ch : List UInt8) (g : Int) (pv : Value) (m : Int) : Array Value := #[.int .i64 e] ++ (pC ph pn ++ (hC ch ++ #[.int .i64 g, pv, .int .i64 m]))
section
variable {e g m : Int} {pv : Value} {ph pn ch : List UInt8}
theorem rpG_size (hl : ph.length = 20) (hc : ch.length = 20) : (rpG e ph pn ch g pv m).size = 45 := by simp [rpG, pC_size, hC_size, hl, hc]
theorem rpG_path (j : Nat) (v : Value) (h : (pC ph pn)[j]? = some v) : (rpG e ph pn ch g pv m)[1 + j]? = some v := by
  have hj := (Array.getElem?_eq_some_iff.1 h).1
  unfold rpG
  rw [Array.getElem?_append_right (by simp), show 1 + j - (#[Value.int .i64 e] : Array Value).size = j by simp, Array.getElem?_append_left hj]
  exact h
theorem rpG_class (hl : ph.length = 20) (j : Nat) (v : Value) (h : (hC ch)[j]? = some v) : (rpG e ph pn ch g pv m)[22 + j]? = some v := by
  have hj := (Array.getElem?_eq_some_iff.1 h).1
  have hs : (pC ph pn).size = 21 := by rw [pC_size, hl]
  unfold rpG
  rw [Array.getElem?_append_right (by show 1 ≤ 22 + j; omega), show 22 + j - (#[Value.int .i64 e] : Array Value).size = 21 + j by show 22 + j - 1 = 21 + j; omega, Array.getElem?_append_right (by rw [hs]; omega), show 21 + j - (pC ph pn).size = j by rw [hs]; omega, Array.getElem?_append_left hj]
  exact h
theorem rpG_tail (hl : ph.length = 20) (hc : ch.length = 20) (j : Nat) : (rpG e ph pn ch g pv m)[42 + j]? = (#[.int .i64 g, pv, .int .i64 m] : Array Value)[j]? := by
  have hs : (pC ph pn).size = 21 := by rw [pC_size, hl]
  have hs2 : (hC ch).size = 20 := by rw [hC_size, hc]
  unfold rpG
  rw [Array.getElem?_append_right (by show 1 ≤ 42 + j; omega), show 42 + j - (#[Value.int .i64 e] : Array Value).size = 41 + j by show 42 + j - 1 = 41 + j; omega, Array.getElem?_append_right (by rw [hs]; omega), show 41 + j - (pC ph pn).size = 20 + j by rw [hs]; omega, Array.getElem?_append_right (by rw [hs2]; omega), show 20 + j - (hC ch).size = j by rw [hs2]; omega]
structure RpG (w : World) (b : Nat) (e : Int) (ph pn ch : List UInt8) (g : Int) (pv : Value) (m : Int) : Prop where
  all : LoadsL Tryz.prog w 46 (some ⟨b, 0, none⟩) (.agg (rpG e ph pn ch g pv m))
  err : LoadsL Tryz.prog w 33 (some ⟨b, 0, none⟩) (.int .i64 e)
  path : LoadsL Tryz.prog w 27 (some ⟨b, 1, none⟩) (.agg (pC ph pn))
  cls : LoadsL Tryz.prog w 25 (some ⟨b, 22, none⟩) (.agg (hC ch))
  goal : LoadsL Tryz.prog w 3 (some ⟨b, 42, none⟩) (.int .i64 g)
  paths : LoadsL Tryz.prog w 44 (some ⟨b, 43, none⟩) pv
  many : LoadsL Tryz.prog w 3 (some ⟨b, 44, none⟩) (.int .i64 m)
set_option maxRecDepth 100000 in
theorem RpG.of_blk {w : World} {b : Nat} (h : Blk w b 46 (rpG e ph pn ch g pv m)) (hl : ph.length = 20) (hc : ch.length = 20) : RpG w b e ph pn ch g pv m where
  all := h.loads (by kernel_rfl : Tryz.prog.underlying 46 = some (.struct (Tryz.prog.fieldsOf 46))) rfl (by rw [rpG_size hl hc]; kernel_rfl)
  err := h.one 0 (by unfold rpG; rw [Array.getElem?_append_left (by simp)]; rfl) Tryz.underlying33 rfl
  path := h.sub 1 (pC ph pn) (fun j v => rpG_path j v) pC_under rfl (pC_info ph pn hl)
  cls := h.sub 22 (hC ch) (rpG_class hl) Tryz.underlying25 rfl (hC_info ch hc)
  goal := h.one 42 (by rw [rpG_tail hl hc 0]; rfl) Tryz.underlying3 rfl
  paths := h.one 43 (by rw [rpG_tail hl hc 1]; rfl) (by kernel_rfl : Tryz.prog.underlying 44 = some (.slice 27)) rfl
  many := h.one 44 (by rw [rpG_tail hl hc 2]; rfl) Tryz.underlying3 rfl
theorem RpG.below {w w' : World} {b : Nat} (h : RpG w b e ph pn ch g pv m) (hb : Below w.heap.size w w') : RpG w' b e ph pn ch g pv m := ⟨h.all.below hb, h.err.below hb, h.path.below hb, h.cls.below hb, h.goal.below hb, h.paths.below hb, h.many.below hb⟩
/-! its fields written -/
variable {w : World} {b : Nat}
theorem rpB_err (h : Blk w b 46 (rpG e ph pn ch g pv m)) (hl : ph.length = 20) (hc : ch.length = 20) (x : Int) : ∃ w', (Instr.storeAt 33 (.pointer (some ⟨b, 0, none⟩)) (.int .i64 x)).run Tryz.prog w = .ok () w' ∧ Blk w' b 46 (rpG x ph pn ch g pv m) ∧ Only (· = b) w w' :=
  h.run_one 0 (by rw [rpG_size hl hc]; omega) _ rfl rfl (by kernel_rfl) _ (by simp [rpG])
theorem rpB_path (h : Blk w b 46 (rpG e ph pn ch g pv m)) (hl : ph.length = 20) (q r : List UInt8) (hq : q.length = 20) : ∃ w', (Instr.storeAt 27 (.pointer (some ⟨b, 1, none⟩)) (.agg (pC q r))).run Tryz.prog w = .ok () w' ∧ Blk w' b 46 (rpG e q r ch g pv m) ∧ Only (· = b) w w' :=
  Blk.run_row (a := #[.int .i64 e]) (b := pC ph pn) (c := hC ch ++ #[.int .i64 g, pv, .int .i64 m]) (pC q r) h (by rw [pC_size, pC_size, hl, hq]) (pC_info q r hq) (pC_one q r) rfl
theorem rpB_class (h : Blk w b 46 (rpG e ph pn ch g pv m)) (hl : ph.length = 20) (hc : ch.length = 20) (q : List UInt8) (hq : q.length = 20) : ∃ w', (Instr.storeAt 25 (.pointer (some ⟨b, 22, none⟩)) (.agg (hC q))).run Tryz.prog w = .ok () w' ∧ Blk w' b 46 (rpG e ph pn q g pv m) ∧ Only (· = b) w w' := by
  have e1 : ∀ x, rpG e ph pn x g pv m = (#[.int .i64 e] ++ pC ph pn) ++ (hC x ++ #[.int .i64 g, pv, .int .i64 m]) := fun x => by simp only [rpG, Array.append_assoc]
  rw [e1] at h
  rw [e1]
  exact Blk.run_row (i := 22) (a := #[.int .i64 e] ++ pC ph pn) (b := hC ch) (c := #[.int .i64 g, pv, .int .i64 m]) (hC q) h (by rw [hC_size, hC_size, hc, hq]) (hC_info q hq) (hC_one q) (by simp [pC_size, hl])
theorem rpG_set (hl : ph.length = 20) (hc : ch.length = 20) (j : Nat) (x : Value) : (rpG e ph pn ch g pv m).setIfInBounds (42 + j) x = #[.int .i64 e] ++ (pC ph pn ++ (hC ch ++ (#[.int .i64 g, pv, .int .i64 m] : Array Value).setIfInBounds j x)) := by
  have hs : (pC ph pn).size = 21 := by rw [pC_size, hl]
  have hs2 : (hC ch).size = 20 := by rw [hC_size, hc]
  unfold rpG
  rw [Array.setIfInBounds_append_right (by simp; omega), Array.setIfInBounds_append_right (by simp [hs]; omega), Array.setIfInBounds_append_right (by simp [hs, hs2]; omega)]
  congr 4
  simp [hs, hs2]
  omega
theorem rpB_goal (h : Blk w b 46 (rpG e ph pn ch g pv m)) (hl : ph.length = 20) (hc : ch.length = 20) (x : Int) : ∃ w', (Instr.storeAt 3 (.pointer (some ⟨b, 42, none⟩)) (.int .i64 x)).run Tryz.prog w = .ok () w' ∧ Blk w' b 46 (rpG e ph pn ch x pv m) ∧ Only (· = b) w w' :=
  h.run_one 42 (by rw [rpG_size hl hc]; omega) _ rfl rfl (by kernel_rfl) _ (rpG_set hl hc 0 _)
theorem rpB_paths (h : Blk w b 46 (rpG e ph pn ch g pv m)) (hl : ph.length = 20) (hc : ch.length = 20) (x : Value) (hx : x.cells = #[x]) (h1 : x.oneCell' = true) : ∃ w', (Instr.storeAt 44 (.pointer (some ⟨b, 43, none⟩)) x).run Tryz.prog w = .ok () w' ∧ Blk w' b 46 (rpG e ph pn ch g x m) ∧ Only (· = b) w w' :=
  h.run_one 43 (by rw [rpG_size hl hc]; omega) _ hx h1 (by kernel_rfl) _ (rpG_set hl hc 1 _)
theorem rpB_many (h : Blk w b 46 (rpG e ph pn ch g pv m)) (hl : ph.length = 20) (hc : ch.length = 20) (x : Int) : ∃ w', (Instr.storeAt 3 (.pointer (some ⟨b, 44, none⟩)) (.int .i64 x)).run Tryz.prog w = .ok () w' ∧ Blk w' b 46 (rpG e ph pn ch g pv x) ∧ Only (· = b) w w' :=
  h.run_one 44 (by rw [rpG_size hl hc]; omega) _ rfl rfl (by kernel_rfl) _ (rpG_set hl hc 2 _)
end
end Go.Proofs.YtpnolgliklmnmaaGreat
/-! wire.RightReply. -/
namespace Go.Proofs.YtpnolgliklmnmaaGreat
open Go.RowKit Pl Go.Agg
theorem pathsName_succ {l : List P20} {k : Nat} {x : P20} (hx : l[k]? = some x) (h : pathsName (l.take k) = true) (hn : isName x.1.2 = true) : pathsName (l.take (k + 1)) = true := by
  unfold pathsName at *
  rw [List.take_add_one, hx, List.all_append, h]
  simp [hn]
theorem pathsName_false {l : List P20} {k : Nat} {x : P20} (hx : l[k]? = some x) (hn : isName x.1.2 = false) : pathsName l = false := by
  unfold pathsName
  rw [List.all_eq_false]
  exact ⟨x, List.mem_of_getElem? hx, by simp [hn]⟩
set_option maxRecDepth 100000 in
theorem nameless_any (h n : List UInt8) (hl : h.length = 20) (w : World) : Calls Tryz.prog 71 #[.agg (pC h n)] w fun e w' => e = .returned (.bool (!(isName n))) ∧ Below w.heap.size w w' := by
  go_enter Tryz.func71, Tryz.ntmps71
  go_wp2_with (first | (with_reducible refine Agg.wpList_box rfl 27 _ rfl (pC h n) rfl ?_; intro g w1 hb hx1 hg; have HP := Lib.hid (PL.of_blk hb hl); have HX1 := Lib.hid hx1; clear hb hx1 hg) | (with_reducible refine Agg.wpList_loadL HP.out.name rfl _ rfl rfl ?_))
  refine (name_any n _).mono ?_
  rintro e w2 ⟨rfl, hx2⟩
  have HW2 := Lib.hid (Agg.belowThen HX1.out (Nat.le_refl _) hx2)
  go_wp2_with fail
  go_ret
  exact ⟨rfl, HW2.out⟩
set_option maxRecDepth 100000 in
set_option maxHeartbeats 1000000 in
theorem pindex_any (v : Value) (l : List P20) (w : World) (hn : l.length ≤ 1048576) (hs : ElemsAt w v l) :
    Calls Tryz.prog 117 #[v, .func (.func 71) #[] #[]] w fun e w' => (∃ r : Int, e = .returned (.int .i64 r) ∧ decide (0 ≤ r) = !(pathsName l)) ∧ Below w.heap.size w w' := by
  have hlv := fun W => elems_len hs W
  have HE := Lib.hid hs
  clear hs
  go_enter Tryz.func117, Tryz.ntmps117
  go_wp2_with fail
  go_loopw [5, 8] (fun _ i wr => ∃ k : Nat, k ≤ l.length ∧ i = .int .i64 k ∧ pathsName (l.take k) = true ∧ Below w.heap.size w wr) (fun _ i _ => l.length - (intOf i).toNat)
  case atStart => exact ⟨0, by omega, rfl, rfl, Below.refl _ _⟩
  case round =>
    obtain ⟨w1, rfl⟩ : ∃ w1 : World, w1 = wr := ⟨_, rfl⟩
    obtain ⟨k, hk, rfl, htk, hw⟩ := hrel
    have HTK := Lib.hid htk
    clear htk
    by_cases hlt : k < l.length
    · obtain ⟨x, hxk⟩ : ∃ x, l[k]? = some x := ⟨_, List.getElem?_eq_getElem hlt⟩
      obtain ⟨p, hadr, hld, _⟩ := elem_at (HE.out.below hw) k x hxk
      have HLX := Lib.hid hld
      have HX := Lib.hid hxk
      have HW := Lib.hid hw
      clear hld hxk hw
      go_wp2_with (first | (with_reducible refine Agg.wpList_loadL HLX.out rfl _ rfl rfl ?_))
      refine (nameless_any x.1.1 x.1.2 x.2 _).mono ?_
      rintro e w2 ⟨rfl, hx2⟩
      have HX2 := Lib.hid (Agg.belowThen HW.out (Nat.le_refl _) hx2)
      clear hx2
      cases hnm : isName x.1.2 with
      | true =>
        have HN := Lib.hid hnm
        clear hnm
        go_wp2_with fail
        go_roundw
        case rel => exact ⟨k + 1, by omega, by go_num, pathsName_succ HX.out HTK.out HN.out, HX2.out⟩
        case measure => simp [intOf]; omega
      | false =>
        have HN := Lib.hid hnm
        clear hnm
        go_wp2_with fail
        go_ret
        exact ⟨⟨(k : Int), rfl, by rw [pathsName_false HX.out HN.out]; simp⟩, HX2.out⟩
    · obtain rfl : k = l.length := by omega
      rw [List.take_length] at HTK
      have HW := Lib.hid hw
      clear hw
      go_wp2_with fail
      go_ret
      exact ⟨⟨-1, rfl, by rw [HTK.out]; rfl⟩, HW.out⟩
set_option maxRecDepth 100000 in
theorem pcontains_any (v : Value) (l : List P20) (w : World) (hn : l.length ≤ 1048576) (hs : ElemsAt w v l) :
    Calls Tryz.prog 72 #[v, .func (.func 71) #[] #[]] w fun e w' => e = .returned (.bool (!(pathsName l))) ∧ Below w.heap.size w w' := by
  have HC := Lib.hid (pindex_any v l w hn hs)
  clear hs
  go_enter Tryz.func72, Tryz.ntmps72
  go_wp2_with fail
  refine HC.out.mono ?_
  rintro e w2 ⟨⟨r, rfl, hr⟩, hx2⟩
  have HR := Lib.hid hr
  have HX2 := Lib.hid hx2
  clear hx2 hr
  go_wp2_with fail
  go_ret
  exact ⟨by rw [← HR.out]; rfl, HX2.out⟩
set_option maxRecDepth 100000 in
set_option maxHeartbeats 2000000 in
theorem rright_any (e g m : Int) (ph pn ch : List UInt8) (pv : Value) (l : List P20) (hl : ph.length = 20) (hc : ch.length = 20) (hn : l.length ≤ 1048576) (w : World) (hs : ElemsAt w pv l) :
    Calls Tryz.prog 26 #[.agg (rpG e ph pn ch g pv m)] w fun x w' => x = .returned (.bool (Rp.right ⟨e, ph, pn, ch, g, l, m⟩)) ∧ Below w.heap.size w w' := by
  have HE := Lib.hid hs
  have hlv := fun W => elems_len hs W
  clear hs
  show Calls _ _ _ _ fun x w' => x = .returned (.bool ((decide (0 ≤ e) && decide (e ≤ 63)) && ((decide (0 ≤ g) && decide (g ≤ 1099511627776)) && ((decide (0 ≤ m) && decide (m ≤ 1099511627776)) && (namedN ph pn true && (decide (l.length ≤ 2000) && pathsName l)))))) ∧ _
  obtain ⟨b1, h1⟩ : ∃ b, (decide (0 ≤ e) && decide (e ≤ 63)) = b := ⟨_, rfl⟩
  obtain ⟨b2, h2⟩ : ∃ b, (decide (0 ≤ g) && decide (g ≤ 1099511627776)) = b := ⟨_, rfl⟩
  obtain ⟨b3, h3⟩ : ∃ b, (decide (0 ≤ m) && decide (m ≤ 1099511627776)) = b := ⟨_, rfl⟩
  obtain ⟨b4, h4⟩ : ∃ b, namedN ph pn true = b := ⟨_, rfl⟩
  obtain ⟨b6, h6⟩ : ∃ b, pathsName l = b := ⟨_, rfl⟩
  rw [h1, h2, h3, h4, h6]
  have H1 := Lib.hid (fun W => withinB h1 W)
  have H2 := Lib.hid (fun W => withinB h2 W)
  have H3 := Lib.hid (fun W => withinB h3 W)
  have H4 := Lib.hid (fun W => (show Calls Tryz.prog 66 #[.agg (pC ph pn), .bool true] W fun e w' => e = .returned (.bool b4) ∧ Below W.heap.size W w' by have := named_any ph pn true hl W; rwa [h4] at this))
  have H6 := Lib.hid (fun W (h : ElemsAt W pv l) => (show Calls Tryz.prog 72 #[pv, .func (.func 71) #[] #[]] W fun e w' => e = .returned (.bool (!b6)) ∧ Below W.heap.size W w' by have := pcontains_any pv l W hn h; rwa [h6] at this))
  clear h1 h2 h3 h4 h6
  go_enter Tryz.func26, Tryz.ntmps26
  go_wp2_with (first | (with_reducible refine Agg.wpList_box rfl 46 _ rfl (rpG e ph pn ch g pv m) rfl ?_; intro b w1 hb1 hx1 hg; have HL := Lib.hid (RpG.of_blk hb1 hl hc); have HW := Lib.hid hx1; clear hb1 hx1 hg) | (with_reducible refine Agg.wpList_loadL HL.out.err rfl _ rfl rfl ?_))
  refine (H1.out _).mono ?_
  rintro x w2 ⟨rfl, rfl⟩
  cases b1 with
  | false =>
    go_wp2_with fail
    go_ret
    exact ⟨rfl, HW.out⟩
  | true =>
  go_wp2_with (first | (with_reducible refine Agg.wpList_loadL HL.out.goal rfl _ rfl rfl ?_))
  refine (H2.out _).mono ?_
  rintro x w3 ⟨rfl, rfl⟩
  cases b2 with
  | false =>
    go_wp2_with fail
    go_ret
    exact ⟨rfl, HW.out⟩
  | true =>
  go_wp2_with (first | (with_reducible refine Agg.wpList_loadL HL.out.many rfl _ rfl rfl ?_))
  refine (H3.out _).mono ?_
  rintro x w4 ⟨rfl, rfl⟩
  cases b3 with
  | false =>
    go_wp2_with fail
    go_ret
    exact ⟨rfl, HW.out⟩
  | true =>
  go_wp2_with (first | (with_reducible refine Agg.wpList_loadL HL.out.path rfl _ rfl rfl ?_))
  refine (H4.out _).mono ?_
  rintro x w5 ⟨rfl, hx5⟩
  have HL5 := Lib.hid (HL.out.below hx5)
  have HW5 := Lib.hid (Agg.belowThen HW.out (Nat.le_refl _) hx5)
  have HE5 := Lib.hid (HE.out.below (Agg.belowThen HW.out (Nat.le_refl _) hx5))
  clear hx5
  cases b4 with
  | false =>
    go_wp2_with fail
    go_ret
    exact ⟨rfl, HW5.out⟩
  | true =>
  by_cases h2000 : l.length ≤ 2000
  · have HD := Lib.hid (decide_eq_true h2000)
    have hq : ¬ ((2000 : Int) < (l.length : Int)) := by omega
    go_wp2_with (first | (with_reducible refine Agg.wpList_loadL HL5.out.paths rfl _ rfl rfl ?_))
    refine (H6.out _ HE5.out).mono ?_
    rintro x w6 ⟨rfl, hx6⟩
    have HW6 := Lib.hid (Agg.belowThen HW5.out (Nat.le_refl _) hx6)
    clear hx6
    go_wp2_with fail
    go_ret
    exact ⟨by rw [HD.out]; simp, HW6.out⟩
  · have HD := Lib.hid (decide_eq_false h2000)
    have hq : ((2000 : Int) < (l.length : Int)) := by omega
    go_wp2_with (first | (with_reducible refine Agg.wpList_loadL HL5.out.paths rfl _ rfl rfl ?_))
    go_ret
    exact ⟨by rw [HD.out]; rfl, HW5.out⟩
end Go.Proofs.YtpnolgliklmnmaaGreat
