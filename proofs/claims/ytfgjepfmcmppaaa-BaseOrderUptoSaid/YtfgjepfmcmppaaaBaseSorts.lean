/- spencelaw03.BaseSorts: true, whatever the paths. -/
import Derived.Test.YtfgjepfmcmppaaaWithin
namespace Go.Proofs.Ytfgjepfmcmppaaa
open Go.RowKit Pl Go.Agg
/-- how many bytes the names have -/
def names (l : List P20) : Nat := (l.map fun p => p.1.2.length).sum
theorem names_append (a b : List P20) : names (a ++ b) = names a + names b := by simp [names]
theorem names_take_succ {l : List P20} {k : Nat} {x : P20} (h : l[k]? = some x) : names (l.take (k + 1)) = names (l.take k) + x.1.2.length := by
  rw [List.take_add_one, h, names_append]
  simp [names]
theorem names_take_le (l : List P20) (k : Nat) : names (l.take k) ≤ names l := by
  have := names_append (l.take k) (l.drop k)
  rw [List.take_append_drop] at this
  omega
theorem names_at {l : List P20} {k : Nat} {x : P20} (h : l[k]? = some x) : names (l.take k) + x.1.2.length ≤ names l := by
  rw [← names_take_succ h]; exact names_take_le _ _
theorem less20_all (p q : P20) (w : World) :
    Calls Try.prog 36 #[.agg (pC p.1.1 p.1.2), .agg (pC q.1.1 q.1.2)] w fun e w' => e = .returned (.bool (lt20 p q)) ∧ Below w.heap.size w w' :=
  less_any p.1.1 p.1.2 q.1.1 q.1.2 p.2 q.2 w
theorem less20 (p q : P20) (w : World) (b : Bool) (h : lt20 p q = b) :
    Calls Try.prog 36 #[.agg (pC p.1.1 p.1.2), .agg (pC q.1.1 q.1.2)] w fun e w' => e = .returned (.bool b) ∧ Below w.heap.size w w' := h ▸ less20_all p q w
theorem str_len (s : List UInt8) (w : World) : (Builtin.len_ #[9] 3 #[.string ⟨s.toArray⟩]).run Try.prog w = .ok (.int .i64 (s.length : Int)) w := by
  rw [run_len_string w 9 3 _ Try.underlying9, Agg.bytes_size]; rfl
theorem rem_nat (a m : Nat) : ((a : Int) * 7 + 3).tmod (m : Int) = (((a * 7 + 3) % m : Nat) : Int) := by
  have : ((a : Int) * 7 + 3) = ((a * 7 + 3 : Nat) : Int) := by omega
  rw [this]; exact (Int.ofNat_tmod _ _).symm
set_option maxRecDepth 100000 in
set_option maxHeartbeats 4000000 in
theorem sorts_any (v : Value) (l : List P20) (hlen : l.length ≤ 1048576) (hnm : names l ≤ 1048576) (w : World) (he : ElemsAt w v l) :
    Calls Try.prog 9 #[v] w fun e w' => e = .returned (.bool true) ∧ Below w.heap.size w w' := by
  have hlv := fun W => elems_len he W
  have HE := Lib.hid he
  clear he
  go_enter Try.func9, Try.ntmps9
  go_wp2_with fail
  go_loopw [3, 4] (fun n i wr => ∃ k : Nat, k ≤ l.length ∧ k ≤ 120 ∧ i = .int .i64 k ∧ n = .int .i64 (names (l.take k)) ∧ Below w.heap.size w wr) (fun _ i _ => l.length - (intOf i).toNat)
  case atStart => exact ⟨0, by omega, by omega, rfl, rfl, Below.refl _ _⟩
  case round =>
    obtain ⟨wo, rfl⟩ : ∃ wo : World, wo = wr := ⟨_, rfl⟩
    obtain ⟨k, hk, hk2, rfl, rfl, hw⟩ := hrel
    by_cases hlt : k < l.length ∧ k < 120
    · obtain ⟨hlt, hlt2⟩ := hlt
      obtain ⟨x, hxk⟩ : ∃ x, l[k]? = some x := ⟨_, List.getElem?_eq_getElem hlt⟩
      obtain ⟨q, hadr, _, hld⟩ := elem_at (HE.out.below hw) k x hxk
      have HL := Lib.hid hld
      have HN := Lib.hid (names_take_succ hxk)
      have hna := names_at hxk
      have hsl := str_len x.1.2
      clear hld hxk
      generalize names (l.take k) = N at *
      have hd1 : decide (k < l.length) = true := by simpa using hlt
      have hd2 : decide ((k : Int) < 120) = true := by simp; omega

      go_wp2_with (first | (with_reducible refine Agg.wpList_loadL HL.out (by kernel_rfl) _ rfl rfl ?_))

      go_roundw
      case rel => exact ⟨k + 1, by omega, by omega, by go_num, by rw [HN.out]; go_num, hw⟩
      case measure => simp [intOf]; omega
    · by_cases hbig : l.length ≤ 120 ∧ names l ≤ 2000
      · obtain ⟨h120, h2000⟩ := hbig
        obtain rfl : k = l.length := by omega
        rw [List.take_length]
        have hd1 : decide (l.length < l.length) = false := by simp
        have hd2 : decide (120 < (l.length : Int)) = false := by simp; omega
        have hd3 : decide (2000 < (names l : Int)) = false := by simp; omega
        have hsz := hw.size
        go_wp2_with (first | (with_reducible refine Agg.wpList_slice0 (base := w.heap.size) E20 rfl rfl hsz ?_; intro v1 w1 ho1 hx1 _) | (at_builtin; refine Agg.wpList_appendS (E := E20) rfl _ _ rfl v rfl rfl l ho1 ((HE.out.below hw).below hx1) (by simp; omega) (by decide) (Nat.le_trans hsz hx1.size) ?_; intro vin w2 ho2 hp2 _))
        have hw2 : Below w.heap.size w w2 := (hw.trans (hx1.mono hsz)).trans (hp2.below _ (Nat.le_refl _) (Nat.le_trans hsz hx1.size))
        have hin : ElemsAt w2 vin l := by simpa using ho2.slice
        clear ho1 hx1 ho2 hp2
        have HIN := Lib.hid hin
        clear hin
        go_wp2_with fail
        refine (sorted_any vin l hlen w2 HIN.out).mono ?_
        rintro e w3 ⟨vout, R, rfl, hR, hmem, hout, hx3⟩
        have hw3 := hw2.trans (hx3.mono hw2.size)
        have HIN3 := Lib.hid (HIN.out.below hx3)
        have HOUT := Lib.hid hout
        have HR := Lib.hid hR
        have HM := Lib.hid hmem
        clear hx3 hout hR hmem
        go_wp2_with fail
        refine (refSorted_any v l hlen w3 (HE.out.below hw3)).mono ?_
        rintro e w4 ⟨vwant, R2, rfl, hR2, hmem2, hwant, hx4⟩
        obtain rfl : R2 = R := rising_unique _ _ hR2 HR.out fun x => (hmem2 x).trans (HM.out x).symm
        have hw4 := hw3.trans (hx4.mono hw3.size)
        have HIN4 := Lib.hid (HIN3.out.below hx4)
        have HOUT4 := Lib.hid (HOUT.out.below hx4)
        have HWANT := Lib.hid hwant
        have hrl : R2.length ≤ l.length := length_le_of_sub R2 l (List.Pairwise.imp (fun {a b} hab (e : a = b) => by subst e; rw [lt20_irrefl] at hab; cases hab) HR.out) fun x hx => (hmem2 x).1 hx
        have hlo := fun W => elems_len HOUT4.out W
        have hlw := fun W => elems_len HWANT.out W
        clear hx4 hwant hR2 hmem2 hlv
        have hlv := fun W => elems_len HE.out W
        have hnq : ((R2.length : Int) != (R2.length : Int)) = false := by simp
        go_wp2_with fail
        go_loopw [8] (fun i wr => ∃ k : Nat, k ≤ R2.length ∧ i = .int .i64 k ∧ Below w4.heap.size w4 wr) (fun i _ => R2.length - (intOf i).toNat)
        case atStart => exact ⟨0, by omega, rfl, Below.refl _ _⟩
        case round =>
          obtain ⟨w5, rfl⟩ : ∃ w5 : World, w5 = wr := ⟨_, rfl⟩
          obtain ⟨k, hk, rfl, hx⟩ := hrel
          by_cases hlt : k < R2.length
          · obtain ⟨x, hxk⟩ : ∃ x, R2[k]? = some x := ⟨_, List.getElem?_eq_getElem hlt⟩
            obtain ⟨q1, hadr1, hld1, _⟩ := elem_at (HOUT4.out.below hx) k x hxk
            obtain ⟨q2, hadr2, hld2, _⟩ := elem_at (HWANT.out.below hx) k x hxk
            have HL1 := Lib.hid hld1
            have HL2 := Lib.hid hld2
            clear hld1 hld2 hxk
            have hq : ∀ w, (binOp .neq 40 (.agg (pC x.1.1 x.1.2)) (.agg (pC x.1.1 x.1.2))).run Try.prog w = .ok (.bool false) w := fun w => by rw [neq20]; simp
            go_wp2_with fail
            try simp only [Act.put, List.setIfInBounds_toArray, List.set_cons_succ, List.set_cons_zero]
            refine Agg.wp_region_later_lit (by kernel_rfl) (by kernel_rfl) ?_
            repeat (first | ((first | (with_reducible refine Agg.wpQuiet_loadL HL1.out (by kernel_rfl) _ rfl rfl ?_) | (with_reducible refine Agg.wpQuiet_loadL HL2.out (by kernel_rfl) _ rfl rfl ?_) | (with_reducible refine Agg.wpQuiet_neq 40 40 _ _ rfl (by kernel_rfl) (pC x.1.1 x.1.2) (pC x.1.1 x.1.2) rfl rfl (false) (by kernel_rfl) hq ?_)); simp only [Act.put, List.setIfInBounds_toArray, List.set_cons_succ, List.set_cons_zero]) | go_big_quiet_step (fail))
            refine wpQuiet_nil ?_
            intro _ hw'
            obtain ⟨x1, rfl⟩ := hw'
            go_wp2_with fail
            go_roundw
            case rel => exact ⟨k + 1, by omega, by go_num, Agg.belowThen hx (Nat.le_refl _) x1.h⟩
            case measure => simp [intOf]; omega
          · obtain rfl : k = R2.length := by omega
            have hw5 := hw4.trans (hx.mono hw4.size)
            have HIN5 := Lib.hid (HIN4.out.below hx)
            clear hx hw4 hlw
            have hdr : decide (R2.length < R2.length) = false := by simp
            go_wp2_with fail
            clear hlo
            go_loopw [9] (fun i wr => ∃ k : Nat, k ≤ l.length ∧ i = .int .i64 k ∧ Below w5.heap.size w5 wr) (fun i _ => l.length - (intOf i).toNat)
            case atStart => exact ⟨0, by omega, rfl, Below.refl _ _⟩
            case round =>
              obtain ⟨w6, rfl⟩ : ∃ w6 : World, w6 = wr := ⟨_, rfl⟩
              obtain ⟨k, hk, rfl, hx⟩ := hrel
              by_cases hlt : k < l.length
              · obtain ⟨x, hxk⟩ : ∃ x, l[k]? = some x := ⟨_, List.getElem?_eq_getElem hlt⟩
                have hml : (k * 7 + 3) % l.length < l.length := Nat.mod_lt _ (by omega)
                obtain ⟨y, hym⟩ : ∃ y, l[(k * 7 + 3) % l.length]? = some y := ⟨_, List.getElem?_eq_getElem hml⟩
                obtain ⟨q1, hadr1, hld1, _⟩ := elem_at (HIN5.out.below hx) k x hxk
                obtain ⟨q2, hadr2, hld2, _⟩ := elem_at ((HE.out.below hw5).below hx) k x hxk
                obtain ⟨q3, hadr3, hld3, _⟩ := elem_at ((HE.out.below hw5).below hx) _ y hym
                have HL1 := Lib.hid hld1
                have HL2 := Lib.hid hld2
                have HL3 := Lib.hid hld3
                clear hld1 hld2 hld3 hxk hym
                have hrem := rem_nat k l.length
                have hq : ∀ w, (binOp .neq 40 (.agg (pC x.1.1 x.1.2)) (.agg (pC x.1.1 x.1.2))).run Try.prog w = .ok (.bool false) w := fun w => by rw [neq20]; simp
                have hl0 : ((l.length : Int) == 0) = false := by rw [beq_eq_false_iff_ne]; omega
                generalize (k * 7 + 3) % l.length = r at *
                have hzp := pC_zero

                go_wp2_with (first | (with_reducible refine Agg.wpList_loadL HL3.out (by kernel_rfl) _ rfl rfl ?_) | (refine Agg.wpList_new rfl rfl rfl 40 10 78 rfl rfl rfl (by decide) (pC z20 []) (pC y.1.1 y.1.2) pC_zero (by rw [pC_size, pC_size, y.2]; rfl) (pC_info _ _ y.2) (pC_one _ _) rfl (by simp [Act.put]) ?_; intro g w7 hb hx7 hg))
                have hx' := Agg.belowThen hx (Nat.le_refl _) hx7
                have HLA := Lib.hid (HL1.out.below hx7)
                have HLB := Lib.hid (HL2.out.below hx7)
                have HLC : Hid (LoadsL Try.prog w7 40 (some ⟨g, 0, none⟩) (.agg (pC y.1.1 y.1.2))) := Lib.hid (hb.loads pC_under rfl (pC_info _ _ y.2))
                clear hb hx7 hg hrem hadr3
                obtain ⟨bl, hbl⟩ : ∃ b, lt20 x y = b := ⟨_, rfl⟩
                have hbb : (bl != bl) = false := by simp
                try simp only [Act.put, List.setIfInBounds_toArray, List.set_cons_succ, List.set_cons_zero]
                refine Agg.wp_region_later_lit (by kernel_rfl) (by kernel_rfl) ?_
                repeat (first | ((first | (with_reducible refine Agg.wpQuiet_loadL HLA.out (by kernel_rfl) _ rfl rfl ?_) | (with_reducible refine Agg.wpQuiet_loadL HLB.out (by kernel_rfl) _ rfl rfl ?_) | (with_reducible refine Agg.wpQuiet_loadL HLC.out (by kernel_rfl) _ rfl rfl ?_) | (with_reducible refine Agg.wpQuiet_neq 40 40 _ _ rfl (by kernel_rfl) (pC x.1.1 x.1.2) (pC x.1.1 x.1.2) rfl rfl (false) (by kernel_rfl) hq ?_)); simp only [Act.put, List.setIfInBounds_toArray, List.set_cons_succ, List.set_cons_zero]) | go_big_quiet_step ((first | (go_at_call 36; exact Agg.Calls.later (less20 x y _ bl hbl)) | (go_at_call 37; exact Agg.Calls.later (refLess20 x y _ bl hbl)))))
                refine wpQuiet_nil ?_
                intro _ hw'
                obtain ⟨x1, rfl⟩ := hw'
                go_wp2_with fail
                go_roundw
                case rel => exact ⟨k + 1, by omega, by go_num, Agg.belowThen hx' (Nat.le_refl _) x1.h⟩
                case measure => simp [intOf]; omega
              · obtain rfl : k = l.length := by omega
                have hw6 := hw5.trans (hx.mono hw5.size)
                go_wp2_with fail
                refine (awake_any _).mono ?_
                rintro e w7 ⟨rfl, hx7⟩
                go_wp2_with fail
                go_ret
                exact ⟨rfl, Agg.belowThen hw6 (Nat.le_refl _) hx7⟩
      · by_cases h120 : l.length ≤ 120
        · obtain rfl : k = l.length := by omega
          have h2000 : ¬ names l ≤ 2000 := fun h => hbig ⟨h120, h⟩
          rw [List.take_length]
          have hd1 : decide (l.length < l.length) = false := by simp
          have hd2 : decide (120 < (l.length : Int)) = false := by simp; omega
          have hd3 : decide (2000 < (names l : Int)) = true := by simp; omega
          clear hbig
          go_wp2_with fail
          refine (awake_any _).mono ?_
          rintro e w7 ⟨rfl, hx7⟩
          go_wp2_with fail
          go_ret
          exact ⟨rfl, Agg.belowThen hw (Nat.le_refl _) hx7⟩
        · obtain rfl : k = 120 := by omega
          have hd1 : decide (120 < l.length) = true := by simp; omega
          have hd2 : decide (120 < (l.length : Int)) = true := by simp; omega
          clear hbig
          go_wp2_with fail
          refine (awake_any _).mono ?_
          rintro e w7 ⟨rfl, hx7⟩
          go_wp2_with fail
          go_ret
          exact ⟨rfl, Agg.belowThen hw (Nat.le_refl _) hx7⟩
end Go.Proofs.Ytfgjepfmcmppaaa
