/- text.reader.run: a recipe is taken. -/
import Derived.Test.YtnlilmiakddlaaaBAP
import Derived.Test.YtnlilmiakddlaaaBAK
import Derived.Test.YtnlilmiakddlaaaBAQ
namespace Go.Proofs.Ytnlilmiakddlaaa
open Go.RowKit Pl Go.Agg
theorem bits_and1 (n : Nat) : bits .and .i64 (n : Int) 1 = ((n % 2 : Nat) : Int) := by
  have h := run_and1 n (default : World)
  simp only [binOp, Op.intBits] at h
  injection h with h _
  injection h
theorem bs_underT : Try.prog.underlying 23 = some (.slice 5) := by kernel_rfl
theorem exec_idxS {o : Oper} {a : Act} {w : World} {x y : Operand} {s : List UInt8} {k : Nat} {c : UInt8} (hk : s[k]? = some c) (ho : o.op = .index 9 x y) (hx : a.eval x = .string ⟨s.toArray⟩) (hy : a.eval y = .int .i64 (k : Int)) : (execOp a.eval o).run Try.prog w = .ok (.value (.int .u8 (c.toNat : Int))) w := by
  simp [execOp, ho, hx, hy, Agg.run_index_str (P := Try.prog) (k := .i64) w Try.underlying9 hk]
theorem unrun_odd {s : List UInt8} (hd : ¬ s = [45]) (h : ¬ s.length % 2 = 0) : unrun s = none := by
  unfold unrun
  split
  · next e => exact absurd e hd
  · split
    · rfl
    · exact unhexs_odd (s.length / 2) s (by omega)
set_option maxRecDepth 100000 in
set_option maxHeartbeats 8000000 in
theorem rrun_any (B g : Nat) (rest : List UInt8) (d : Drv) (hr : rest.length ≤ 1048576) (hl : d.2.2.length ≤ 1048576) (w : World) (hB : B ≤ w.heap.size) (h : RdV B g w d false) :
    Calls Try.prog 36 #[.pointer (some ⟨g, 0, none⟩), .string ⟨rest.toArray⟩] w fun e w' => RdOut B g w (tgStep ⟨d, false, false⟩ [114, 117, 110] rest) e w' := by
  rw [tgStep_run]
  have hlen := str_len' rest
  have hand := bits_and1 rest.length
  obtain ⟨hg, vi, vr, h1, h2, h3⟩ := h
  have hrun := Agg.Blk.run_put (P := Try.prog) (ty := 4) h1 3 (by simp [rdC]) (.bool true) rfl rfl (by kernel_rfl)
  have hb1 := Agg.Blk.set h1 3 (.bool true)
  have ho1 := only_setCells g 3 [.bool true] w
  obtain ⟨w1, hw1⟩ : ∃ X, X = w.setCell ⟨g, 3, none⟩ (.bool true) := ⟨_, rfl⟩
  have ho1 : Only (· = g) w w1 := by rw [hw1]; exact ho1
  rw [← hw1] at hrun hb1
  have keepO : ∀ {α : Type} {E : Elem Try.prog α} {v : Value} {l : List α}, E.ty ≠ 71 → Agg.Own E B w v l → Agg.Own E B w1 v l := fun hne h => h.typed fun k cur fr hk => by
    refine (ho1.block k (heap_lt hk) fun e => ?_).trans hk
    subst e
    rw [show w.heap[k]? = _ from h1] at hk
    injection hk with hk
    injection hk with _ ht _
    exact absurd ht.symm hne
  have HRUN := Lib.hid hrun
  have HV1 := Lib.hid (show RdV B g w1 d true from ⟨hg, vi, vr, hb1, keepO (E := ENm) (show 44 ≠ 71 by decide) h2, keepO (E := EB) (show 5 ≠ 71 by decide) h3⟩)
  have HX1 := Lib.hid (ho1.below hB (fun i hi => by subst hi; exact hg))
  have HR1 := Lib.hid (show RSt g w w1 from RStep.only h1 ho1)
  have HG := Lib.hid hg
  have hB1 : B ≤ w1.heap.size := Nat.le_trans hB ho1.size
  clear hrun hb1 ho1 keepO h1 h2 h3 hw1 hg
  go_enter Try.func36, Try.ntmps36
  by_cases hd : rest = [45]
  · have HQ := Lib.hid (show decide (rest = [45]) = true by simp [hd])
    have HU := Lib.hid (show unrun rest = some [] by rw [hd]; rfl)
    clear hd hlen hand
    go_wp2_with (first | (refine Agg.wpList_store rfl rfl 4 _ _ rfl _ _ rfl rfl HRUN.out ?_) | (refine wpList_eqlS (s := rest) (r := [45]) rfl rfl rfl rfl true HQ.out ?_))
    go_end0
    refine ⟨HX1.out, HR1.out, ?_⟩
    rw [HU.out]
    refine ⟨rfl, ?_⟩
    have := HV1.out
    simpa using this
  have HQ := Lib.hid (show decide (rest = [45]) = false by simp [hd])
  by_cases hz : rest = []
  · have HZ := Lib.hid (show (!decide (rest = [])) = false by simp [hz])
    have HU := Lib.hid (show unrun rest = none by rw [unrun, if_neg hd, if_pos hz])
    clear hd hz hlen hand
    go_wp2_with (first | (refine Agg.wpList_store rfl rfl 4 _ _ rfl _ _ rfl rfl HRUN.out ?_) | (refine wpList_eqlS (s := rest) (r := [45]) rfl rfl rfl rfl false HQ.out ?_) | (refine wpList_neqS (s := rest) (r := []) rfl rfl rfl rfl false HZ.out ?_))
    refine (must_no w1).mono ?_
    rintro e w2 ⟨rfl, rfl⟩
    go_wp2_with fail
    refine ⟨rfl, HX1.out, HR1.out, ?_⟩
    rw [HU.out]; rfl
  have HZ := Lib.hid (show (!decide (rest = [])) = true by simp [hz])
  by_cases hodd : rest.length % 2 = 0
  case neg =>
    have HU := Lib.hid (unrun_odd hd hodd)
    have he : (((rest.length % 2 : Nat) : Int) == 0) = false := by rw [beq_eq_false_iff_ne]; omega
    have he2 : decide (((rest.length % 2 : Nat) : Int) = 0) = false := by simp; omega
    have HW1 := Lib.hid HX1.out
    obtain ⟨n2, hn2⟩ : ∃ n, rest.length % 2 = n := ⟨_, rfl⟩
    rw [hn2] at hand he he2
    clear hd hz hodd hn2
    go_wp2_with (first | (refine Agg.wpList_store rfl rfl 4 _ _ rfl _ _ rfl rfl HRUN.out ?_) | (refine wpList_eqlS (s := rest) (r := [45]) rfl rfl rfl rfl false HQ.out ?_) | (refine wpList_neqS (s := rest) (r := []) rfl rfl rfl rfl true HZ.out ?_))
    refine (must_no w1).mono ?_
    rintro e w2 ⟨rfl, rfl⟩
    go_wp2_with fail
    refine ⟨rfl, HX1.out, HR1.out, ?_⟩
    rw [HU.out]; rfl
  case pos =>
    have HUN := Lib.hid (show unrun rest = unhexs rest by rw [unrun, if_neg hd, if_neg hz])
    have HEV := Lib.hid hodd
    rw [hodd] at hand
    clear hd hz hodd
    go_wp2_with (first | (refine Agg.wpList_store rfl rfl 4 _ _ rfl _ _ rfl rfl HRUN.out ?_) | (refine wpList_eqlS (s := rest) (r := [45]) rfl rfl rfl rfl false HQ.out ?_) | (refine wpList_neqS (s := rest) (r := []) rfl rfl rfl rfl true HZ.out ?_))
    refine (must_yes w1).mono ?_
    rintro e w2 ⟨rfl, rfl⟩
    clear HRUN HQ HZ hand
    go_wp2_with fail
    go_loopw [4] (fun i wr => ∃ (k : Nat) (out : List UInt8), k ≤ rest.length ∧ k % 2 = 0 ∧ i = .int .i64 (k : Int) ∧ out.length ≤ k ∧ soFar rest k out ∧ RdV B g wr (d.1, d.2.1, d.2.2 ++ out) true ∧ Below B w wr ∧ RSt g w wr) (fun i _ => rest.length - (intOf i).toNat)
    case atStart => exact ⟨0, [], by omega, rfl, rfl, by simp, soFar_start _, by simpa using HV1.out, HX1.out, HR1.out⟩
    case round =>
      obtain ⟨k, out, hk, hk2, rfl, hol, hso, hv, hx, hrs⟩ := hrel
      have HSO := Lib.hid hso
      have HV := Lib.hid hv
      have HX := Lib.hid hx
      have HRS := Lib.hid hrs
      clear hso hv hx hrs
      by_cases hlt : k < rest.length
      · have hd1 : decide ((k : Int) < (rest.length : Int)) = true := by simp; omega
        have hev := HEV.out
        obtain ⟨ca, hca⟩ : ∃ c, rest[k]? = some c := ⟨_, List.getElem?_eq_getElem hlt⟩
        obtain ⟨cb, hcb⟩ : ∃ c, rest[k + 1]? = some c := ⟨_, List.getElem?_eq_getElem (by omega)⟩
        go_wp2_with fail
        obtain ⟨hv, hhv⟩ : ∃ x, dig ca = x := ⟨_, rfl⟩
        obtain ⟨lv, hlv⟩ : ∃ x, dig cb = x := ⟨_, rfl⟩
        have HDA := Lib.hid (fun W => (by have := digit_any ca W; rw [hhv] at this; exact this : Calls Try.prog 31 #[.string ⟨#[48, 49, 50, 51, 52, 53, 54, 55, 56, 57, 97, 98, 99, 100, 101, 102]⟩, .int .u8 (ca.toNat : Int)] W fun e w' => e = .returned (.int .i64 hv) ∧ Below W.heap.size W w'))
        have HDB := Lib.hid (fun W => (by have := digit_any cb W; rw [hlv] at this; exact this : Calls Try.prog 31 #[.string ⟨#[48, 49, 50, 51, 52, 53, 54, 55, 56, 57, 97, 98, 99, 100, 101, 102]⟩, .int .u8 (cb.toNat : Int)] W fun e w' => e = .returned (.int .i64 lv) ∧ Below W.heap.size W w'))
        have hua := dig_unhex ca
        have hub := dig_unhex cb
        rw [hhv] at hua
        rw [hlv] at hub
        have HEI := Lib.hid (enters_of Try.func31 (by kernel_rfl) rfl : ∀ args w, (callFunc 31 args).run Try.prog w = .ok (.enter 31 args) w)
        have HCA := Lib.hid hca
        have HCB := Lib.hid hcb
        clear hhv hlv hca hcb
        refine Agg.wp_cutR (fun a0 a' w' => Below wr.heap.size wr w' ∧ ExPut [27, 28, 29, 30, 31, 32, 33, 34, 35] ((a0.put (some 5) (.int .i64 hv)).put (some 6) (.int .i64 lv)) a') ?_ ?_
        · try simp only [Act.put, List.setIfInBounds_toArray, List.set_cons_succ, List.set_cons_zero]
          obtain ⟨wa, hwa⟩ : ∃ X, X = wr.drew := ⟨_, rfl⟩
          have Z_ : Below wr.heap.size wr wa := by rw [hwa]; exact (Below.refl _ _).drew
          have hT : True := trivial
          refine wp_region_held_drew (S := fun _ => True) (by kernel_rfl) (by trivial) (fun hHeld => ?_)
          rw [← hwa]
          clear hwa hHeld
          refine Agg.held_take 0 (.string ⟨rest.toArray⟩) rfl (by kernel_rfl) (fun _ _ _ h => h) rfl (fun W _ => by kernel_rfl) (by assumption) ?_
          try simp only [Act.put, List.setIfInBounds_toArray, List.set_cons_succ, List.set_cons_zero]
          refine Agg.held_take 1 (.int .i64 (k : Int)) rfl (by kernel_rfl) (fun _ _ _ h => h) rfl (fun W _ => by kernel_rfl) (by assumption) ?_
          try simp only [Act.put, List.setIfInBounds_toArray, List.set_cons_succ, List.set_cons_zero]
          refine Agg.held_take 2 (.int .u8 (ca.toNat : Int)) rfl (by kernel_rfl) (fun _ _ _ h => h) rfl (fun W _ => exec_idxS HCA.out rfl rfl rfl) (by assumption) ?_
          try simp only [Act.put, List.setIfInBounds_toArray, List.set_cons_succ, List.set_cons_zero]
          refine Agg.held_take 4 (.string ⟨rest.toArray⟩) rfl (by kernel_rfl) (fun _ _ _ h => h) rfl (fun W _ => by kernel_rfl) (by assumption) ?_
          try simp only [Act.put, List.setIfInBounds_toArray, List.set_cons_succ, List.set_cons_zero]
          refine Agg.held_take 5 (.int .i64 (k : Int)) rfl (by kernel_rfl) (fun _ _ _ h => h) rfl (fun W _ => by kernel_rfl) (by assumption) ?_
          try simp only [Act.put, List.setIfInBounds_toArray, List.set_cons_succ, List.set_cons_zero]
          refine Agg.held_take 6 (.int .i64 ((k + 1 : Nat) : Int)) rfl (by kernel_rfl) (fun _ _ _ h => h) rfl (fun W _ => exec_addI (m := k) (n := 1) (by omega) rfl rfl rfl) (by assumption) ?_
          try simp only [Act.put, List.setIfInBounds_toArray, List.set_cons_succ, List.set_cons_zero]
          refine Agg.held_take 7 (.int .u8 (cb.toNat : Int)) rfl (by kernel_rfl) (fun _ _ _ h => h) rfl (fun W _ => exec_idxS HCB.out rfl rfl rfl) (by assumption) ?_
          try simp only [Act.put, List.setIfInBounds_toArray, List.set_cons_succ, List.set_cons_zero]
          refine Agg.held_ready [3] (by kernel_rfl) (by simp) ?_
          refine Agg.held_cons rfl ?_ ?_
          · refine Agg.step_call rfl 31 _ _ rfl #[.string ⟨#[48, 49, 50, 51, 52, 53, 54, 55, 56, 57, 97, 98, 99, 100, 101, 102]⟩, .int .u8 (ca.toNat : Int)] (by simp only [List.map_toArray, List.map_cons, List.map_nil]; rfl) (fun W => HEI.out _ W) ?_
            refine (HDA.out wa).mono ?_
            rintro e wa_3 ⟨rfl, hx⟩
            have Z_3 := Agg.belowThen Z_ (Nat.le_refl _) hx
            clear hx
            refine ⟨_, rfl, trivial, ?_⟩
            try simp only [Act.put, List.setIfInBounds_toArray, List.set_cons_succ, List.set_cons_zero]
            refine Agg.held_ready [8] (by kernel_rfl) (by simp) ?_
            refine Agg.held_cons rfl ?_ ?_
            · refine Agg.step_call rfl 31 _ _ rfl #[.string ⟨#[48, 49, 50, 51, 52, 53, 54, 55, 56, 57, 97, 98, 99, 100, 101, 102]⟩, .int .u8 (cb.toNat : Int)] (by simp only [List.map_toArray, List.map_cons, List.map_nil]; rfl) (fun W => HEI.out _ W) ?_
              refine (HDB.out wa_3).mono ?_
              rintro e wa_3_8 ⟨rfl, hx⟩
              have Z_3_8 := Agg.belowThen Z_3 (Nat.le_refl _) hx
              clear hx
              refine ⟨_, rfl, trivial, ?_⟩
              try simp only [Act.put, List.setIfInBounds_toArray, List.set_cons_succ, List.set_cons_zero]
              refine Agg.held_take 9 (.int .i64 hv) rfl (by kernel_rfl) (fun _ _ _ h => h) rfl (fun W _ => by kernel_rfl) (by assumption) ?_
              try simp only [Act.put, List.setIfInBounds_toArray, List.set_cons_succ, List.set_cons_zero]
              refine Agg.held_take 10 (.int .i64 lv) rfl (by kernel_rfl) (fun _ _ _ h => h) rfl (fun W _ => by kernel_rfl) (by assumption) ?_
              try simp only [Act.put, List.setIfInBounds_toArray, List.set_cons_succ, List.set_cons_zero]
              refine Agg.held_end (by kernel_rfl) ?_
              simp only [Agg.ExPut, Act.put, List.setIfInBounds_toArray, List.set_cons_succ, List.set_cons_zero]
              exact ⟨Z_3_8, _, _, _, _, _, _, _, _, _, rfl⟩
            exact AllReadyH.nil
          exact AllReadyH.nil
        · rintro a' w7 ⟨hx, hex⟩
          simp only [Agg.ExPut, Act.put, List.setIfInBounds_toArray, List.set_cons_succ, List.set_cons_zero] at hex
          obtain ⟨y27, y28, y29, y30, y31, y32, y33, y34, y35, rfl⟩ := hex
          have HV7 := Lib.hid (HV.out.below hx)
          have HX7 := Lib.hid (HX.out.trans (hx.mono (Nat.le_trans hB HX.out.size)))
          have HR7 := Lib.hid (HRS.out.trans (RStep.below hx : RSt g wr w7))
          clear hx HV HX HRS HDA HDB HEI
          have bad : (unhex ca = none ∨ unhex cb = none) → unhexs rest = none := fun h => soFar_bad HSO.out HCA.out HCB.out h
          have HBAD := Lib.hid bad
          clear bad
          cases hxa : unhex ca with
          | none =>
            rw [hxa] at hua
            simp only at hua
            subst hua
            have HU := Lib.hid (HBAD.out (.inl hxa))
            clear hxa hub HBAD
            go_wp2_with fail
            refine (must_no w7).mono ?_
            rintro e w8 ⟨rfl, rfl⟩
            go_wp2_with fail
            refine ⟨rfl, HX7.out, HR7.out, ?_⟩
            rw [HUN.out, HU.out]; rfl
          | some x =>
            rw [hxa] at hua
            simp only at hua
            subst hua
            have hx16 := unhex_lt hxa
            have h0x : decide ((0 : Int) ≤ (x : Int)) = true := by simp
            cases hxb : unhex cb with
            | none =>
              rw [hxb] at hub
              simp only at hub
              subst hub
              have HU := Lib.hid (HBAD.out (.inr hxb))
              clear hxa hxb HBAD
              go_wp2_with fail
              refine (must_no w7).mono ?_
              rintro e w8 ⟨rfl, rfl⟩
              go_wp2_with fail
              refine ⟨rfl, HX7.out, HR7.out, ?_⟩
              rw [HUN.out, HU.out]; rfl
            | some y =>
              rw [hxb] at hub
              simp only at hub
              subst hub
              have hy16 := unhex_lt hxb
              have h0y : decide ((0 : Int) ≤ (y : Int)) = true := by simp
              have HSO2 := Lib.hid (soFar_step HSO.out HCA.out HCB.out hxa hxb)
              clear hxa hxb HBAD
              go_wp2_with fail
              refine (must_yes w7).mono ?_
              rintro e w8 ⟨rfl, rfl⟩
              obtain ⟨hg8, vi8, vr8, h1, h2, h3⟩ := HV7.out
              obtain ⟨xs, hxs⟩ : ∃ n, 16 * x = n := ⟨_, rfl⟩
              obtain ⟨rs, hrs⟩ : ∃ n, xs + y = n := ⟨_, rfl⟩
              have HXS := Lib.hid hxs
              have HRSU := Lib.hid hrs
              have H1 := Lib.hid h1
              have H2 := Lib.hid h2
              have H3 := Lib.hid h3
              have hB8 : B ≤ w8.heap.size := Nat.le_trans hB HX7.out.size
              clear h1 h2 h3 hxs hrs HV7
              go_wp2_with (first | (with_reducible refine Agg.wpList_loadL (H1.out.one (P := Try.prog) (ty := 23) 2 rfl bs_underT rfl) rfl _ rfl rfl ?_) | (refine Agg.wpList_valw rfl (exec_shlD hx16 HXS.out rfl rfl) ?_) | (refine Agg.wpList_valw rfl (exec_orD hx16 hy16 HXS.out HRSU.out rfl rfl rfl) ?_) | (with_reducible refine Agg.wpList_valw rfl (exec_byteD rs rfl rfl) ?_) | (refine Agg.wpList_push (E := EB) rfl rfl 54 rfl _ rfl _ rfl (UInt8.ofNat rs) rfl (fun _ => rfl) (by first | (simp; done) | simp [Act.put]) H3.out (by simp; omega) (by decide) hB8 ?_; intro u9 v9 w9 ho hp; have HO9 := Lib.hid (show Agg.Own EB B w9 v9 (d.2.2 ++ (out ++ [UInt8.ofNat rs])) by rw [← List.append_assoc]; exact ho); have H19 := Lib.hid (show Blk w9 g 71 (rdC d.1 vi8 vr8 true) from hp.blk g _ _ _ (show 71 ≠ 5 by decide) H1.out); have H29 := Lib.hid (H2.out.typed fun k cur fr hk => hp.blk k _ _ _ (show 44 ≠ 5 by decide) hk); have HX9 := Lib.hid (HX7.out.trans (hp.below B (Nat.le_refl _) hB8)); have HR9 := Lib.hid (HR7.out.trans (RStep.pushed H3.out hp (.inr rfl) : RSt g w8 w9)); have HST := Lib.hid (Agg.Blk.run_put (P := Try.prog) (ty := 23) H19.out 2 (by simp [rdC]) v9 (sv_own HO9.out).1 (sv_own HO9.out).2 (by kernel_rfl)); clear ho hp) | (refine Agg.wpList_store rfl rfl 23 _ _ rfl _ _ rfl rfl HST.out ?_))
              have hb10 := Agg.Blk.set H19.out 2 v9
              have ho10 := only_setCells g 2 [v9] w9
              obtain ⟨w10, hw10⟩ : ∃ X, X = w9.setCell ⟨g, 2, none⟩ v9 := ⟨_, rfl⟩
              have ho10 : Only (· = g) w9 w10 := by rw [hw10]; exact ho10
              rw [← hw10] at hb10 ⊢
              have keepO : ∀ {α : Type} {E : Elem Try.prog α} {v : Value} {l : List α}, E.ty ≠ 71 → Agg.Own E B w9 v l → Agg.Own E B w10 v l := fun hne h => h.typed fun k cur fr hk => by
                refine (ho10.block k (heap_lt hk) fun e => ?_).trans hk
                subst e
                rw [show w9.heap[k]? = _ from H19.out] at hk
                injection hk with hk
                injection hk with _ ht _
                exact absurd ht.symm hne
              have HV10 := Lib.hid (show RdV B g w10 (d.1, d.2.1, d.2.2 ++ (out ++ [UInt8.ofNat rs])) true from ⟨hg8, vi8, v9, hb10, keepO (E := ENm) (show 44 ≠ 71 by decide) H29.out, keepO (E := EB) (show 5 ≠ 71 by decide) HO9.out⟩)
              have HX10 := Lib.hid (HX9.out.trans (ho10.below (Nat.le_trans hB HX9.out.size) (fun i hi => by subst hi; exact hg8)))
              have HR10 := Lib.hid (HR9.out.trans (RStep.only H19.out ho10))
              have hrse : UInt8.ofNat (16 * x + y) = UInt8.ofNat rs := by rw [HXS.out, HRSU.out]
              rw [hrse] at HSO2
              clear keepO hb10 ho10 hw10
              go_wp2_with fail
              go_roundw
              case rel => exact ⟨k + 2, out ++ [UInt8.ofNat rs], by omega, by omega, by go_num, by simp; omega, HSO2.out, HV10.out, HX10.out, HR10.out⟩
              case measure => simp [intOf]; omega
      · have hd1 : decide ((k : Int) < (rest.length : Int)) = false := by simp; omega
        have hkl : k = rest.length := by omega
        have HU := Lib.hid (show unhexs rest = some out from soFar_end (hkl ▸ HSO.out))
        clear hkl
        go_wp2_with fail
        go_end0
        refine ⟨HX.out, HRS.out, ?_⟩
        rw [HUN.out, HU.out]
        exact ⟨rfl, HV.out⟩
end Go.Proofs.Ytnlilmiakddlaaa
