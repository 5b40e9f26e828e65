/- RealGrows answers true. -/
import Derived.Test.YtniibcgomnjfgaaQAP
namespace Go.Proofs.Ytniibcgomnjfgaa
open Go.RowKit Pl Go.Agg
set_option maxRecDepth 100000 in
set_option maxHeartbeats 32000000 in
theorem realGrows_any (v : Value) (turn : Int) (l : List BuV) (hl : l.length ≤ 1048576) (hni : ∀ x ∈ l, x.1.ins.length ≤ 1048576 ∧ x.1.pa.1.2.length ≤ 1048576 ∧ ∀ m ∈ x.1.ins, m.2.1.2.length ≤ 1048576) (hcap : ∀ p n c, v = .slice p n c → n ≤ c) (w : World) (hs : BusAt w v l) :
    Calls Try.prog 3 #[v, .int .i64 turn] w fun e w' => e = .returned (.bool true) ∧ Below w.heap.size w w' := by
  obtain ⟨p, c, rfl⟩ := hs.row.form
  have HCAP := Lib.hid (hcap _ _ _ rfl)
  have HEG := Lib.hid (enters_of Try.func7 (by kernel_rfl) rfl : ∀ args w, (callFunc 7 args).run Try.prog w = .ok (.enter 7 args) w)
  have HS := Lib.hid hs
  have HN3 := Lib.hid hni
  have HNI := Lib.hid (fun x hx => (hni x hx).1 : ∀ x ∈ l, x.1.ins.length ≤ 1048576)
  have hlv := fun W => bus_len hs W
  clear hs hni hcap
  go_enter Try.func3, Try.ntmps3
  go_wp2_with fail
  refine (awake22_any w).mono ?_
  rintro e w1 ⟨rfl, hx1⟩
  have HW1 := Lib.hid hx1
  clear hx1
  by_cases h30 : 30 < (l.length : Int)
  · have hd30 := decide_eq_true h30
    go_wp2_with fail
    go_ret
    exact ⟨rfl, HW1.out⟩
  have hd30 := decide_eq_false h30
  have hl30 : l.length ≤ 30 := by omega
  clear h30
  go_wp2_with fail
  refine (builtsOf_any (.slice p l.length c) l hl HN3.out w1 (HS.out.below HW1.out)).mono ?_
  rintro e w2 ⟨n, rfl, hx2⟩
  have HW2 := Lib.hid (Agg.belowThen HW1.out (Nat.le_refl _) hx2)
  clear hx2
  by_cases hn2 : 2000 < (n : Int)
  · have hdn := decide_eq_true hn2
    go_wp2_with fail
    go_ret
    exact ⟨rfl, HW2.out⟩
  have hdn := decide_eq_false hn2
  clear hn2
  go_wp2_with fail
  refine (grown_any (.slice p l.length c) l (by omega) HNI.out w2 (HS.out.below HW2.out)).mono ?_
  rintro e w3 hgo
  unfold GrownO at hgo
  obtain ⟨vA, cb, lvA, rfl, hg, hb, hla, hx3⟩ := hgo
  have HG := Lib.hid hg
  have HA := Lib.hid hb
  have HW3 := Lib.hid (Agg.belowThen HW2.out (Nat.le_refl _) hx3)
  have HNA := Lib.hid (show ∀ x ∈ lvA, x.1.ins.length ≤ 1048576 from fun x hx => by
    have h1 := grown_mem hg (List.mem_map.2 ⟨x, hx, rfl⟩)
    obtain ⟨z, hz, e⟩ := List.mem_map.1 h1
    rw [← e]; exact HNI.out z hz)
  clear hg hb hx3
  go_wp2_with fail
  refine (buMap_any vA lvA (by omega) w3 HA.out).mono ?_
  rintro e w4 ⟨bm, rfl, hbm, hx4⟩
  obtain rfl : bm = true := hbm.2 (HG.out.map ltPl_ord)
  have HW4 := Lib.hid (Agg.belowThen HW3.out (Nat.le_refl _) hx4)
  have HA4 := Lib.hid (HA.out.below hx4)
  have hla4 := fun W => bus_len HA.out W
  clear hx4 hbm HA
  go_wp2_with fail
  go_loopw [7] (fun i wr => ∃ k : Nat, k ≤ l.length ∧ i = .int .i64 (k : Int) ∧ Below w4.heap.size w4 wr) (fun i _ => l.length - (intOf i).toNat)
  case atStart => exact ⟨0, by omega, rfl, Below.refl _ _⟩
  case round =>
    obtain ⟨wr1, rfl⟩ : ∃ y : World, y = wr := ⟨_, rfl⟩
    obtain ⟨k, hk, rfl, hw⟩ := hrel
    have HR5 := Lib.hid hw
    have HW5 := Lib.hid (Agg.belowThen HW4.out (Nat.le_refl _) hw)
    have HSW := Lib.hid (HS.out.below HW5.out)
    have HA5 := Lib.hid (HA4.out.below hw)
    clear hw
    by_cases hlt : k < l.length
    · have hd : decide ((k : Int) < (l.length : Int)) = true := decide_eq_true (by omega)
      obtain ⟨x, hxk⟩ : ∃ x, l[k]? = some x := ⟨_, List.getElem?_eq_getElem hlt⟩
      obtain ⟨q, hadr, hq, hin⟩ := HSW.out.at_ k x hxk
      have hnx := HNI.out x (List.mem_of_getElem? hxk)
      have HQ0 := Lib.hid hq
      have HX := Lib.hid hxk
      have HIX0 := Lib.hid hin
      clear hq hxk hin
      go_wp2_with (first | (with_reducible refine wpList_loadL HQ0.out.all rfl _ rfl rfl ?_))
      refine (buRight_any x wr1 HIX0.out).mono ?_
      rintro e w6 ⟨rfl, hx6⟩
      cases hrx : rightBu x.1 with
      | false =>
        go_wp2_with fail
        go_roundw
        case rel => exact ⟨k + 1, by omega, by go_num, Agg.belowThen HR5.out (Nat.le_refl _) hx6⟩
        case measure => simp [intOf]; omega
      | true =>
      have HRX := Lib.hid hrx
      have HR6 := Lib.hid (Agg.belowThen HR5.out (Nat.le_refl _) hx6)
      have HQ6 := Lib.hid (HQ0.out.below hx6)
      have HIX6 := Lib.hid (HIX0.out.below hx6)
      have HS6 := Lib.hid (HSW.out.below hx6)
      have HA6 := Lib.hid (HA5.out.below hx6)
      clear hrx hx6
      go_wp2_with fail
      go_loopw [8, 9] (fun f i ws => ∃ (j : Nat) (fb : Bool), j ≤ k ∧ f = .bool fb ∧ i = .int .i64 (j : Int) ∧ (fb = true → NoneB l x j) ∧ Below w6.heap.size w6 ws) (fun _ i _ => k - (intOf i).toNat)
      case atStart => exact ⟨0, true, by omega, rfl, rfl, fun _ => noneB_zero l x, Below.refl _ _⟩
      case round =>
        obtain ⟨ws1, rfl⟩ : ∃ y : World, y = wr := ⟨_, rfl⟩
        obtain ⟨j, fb, hj, rfl, rfl, hnb, hws⟩ := hrel
        have HB := Lib.hid hws
        have HN := Lib.hid hnb
        have HQ := Lib.hid (HQ6.out.below hws)
        clear hnb
        by_cases hjk : j < k
        · have hdj : decide ((j : Int) < (k : Int)) = true := decide_eq_true (by omega)
          obtain ⟨y, hyj⟩ : ∃ y, l[j]? = some y := ⟨_, List.getElem?_eq_getElem (by omega)⟩
          obtain ⟨q2, hadr2, hq2, hin2⟩ := (HS6.out.below hws).at_ j y hyj
          have HQ2 := Lib.hid hq2
          have HY := Lib.hid hyj
          obtain ⟨r, hr⟩ : ∃ r, rightBu y.1 = r := ⟨_, rfl⟩
          have HRY := Lib.hid (fun z : Later ws1 => (show Calls Try.prog 9 #[.agg (bC y)] z.w fun e w' => e = .returned (.bool r) ∧ Below z.w.heap.size z.w w' by have := buRight_any y z.w (hin2.below z.h); rwa [hr] at this))
          have HRB := Lib.hid hr
          clear hq2 hyj hin2 hr hws
          obtain ⟨e1, h1⟩ : ∃ e, decide (y.1.cl = x.1.cl) = e := ⟨_, rfl⟩
          obtain ⟨e2, h2⟩ : ∃ e, decide (y.1.ky = x.1.ky) = e := ⟨_, rfl⟩
          obtain ⟨e3, h3⟩ : ∃ e, (y.1.by_ == x.1.by_) = e := ⟨_, rfl⟩
          have HPE := Lib.hid (show (plOf y.1 = plOf x.1) ↔ (e1 && (e2 && e3)) = true by rw [pl_eq, h1, h2, h3])
          have H1 := Lib.hid (fun W => (show (binOp .eql 30 (.agg (hC y.1.cl.1)) (.agg (hC x.1.cl.1))).run Try.prog W = .ok (.bool e1) W by rw [eqlHB, h1]))
          have H2 := Lib.hid (fun W => (show (binOp .eql 30 (.agg (hC y.1.ky.1)) (.agg (hC x.1.ky.1))).run Try.prog W = .ok (.bool e2) W by rw [eqlHB, h2]))
          clear h1 h2
          go_wp2_with fail
          cases r with
          | false =>
            try simp only [List.append_eq, List.cons_append, List.nil_append]
            try simp only [Act.put, List.setIfInBounds_toArray, List.set_cons_succ, List.set_cons_zero]
            refine Agg.wp_region_later_lit (by kernel_rfl) (by kernel_rfl) ?_
            repeat (first | go_big_quiet_skip | ((first | (with_reducible refine Agg.wpQuiet_loadL HQ2.out.all rfl _ rfl rfl ?_) | (with_reducible refine Agg.wpQuiet_loadL HQ2.out.cls rfl _ rfl rfl ?_) | (with_reducible refine Agg.wpQuiet_loadL HQ.out.cls rfl _ rfl rfl ?_) | (with_reducible refine Agg.wpQuiet_loadL HQ2.out.key rfl _ rfl rfl ?_) | (with_reducible refine Agg.wpQuiet_loadL HQ.out.key rfl _ rfl rfl ?_) | (with_reducible refine Agg.wpQuiet_loadL HQ2.out.by_ rfl _ rfl rfl ?_) | (with_reducible refine Agg.wpQuiet_loadL HQ.out.by_ rfl _ rfl rfl ?_) | (with_reducible refine Agg.wpQuiet_eql rfl 30 30 _ _ rfl (hC y.1.cl.1) (hC x.1.cl.1) rfl rfl _ (by kernel_rfl) H1.out ?_) | (with_reducible refine Agg.wpQuiet_eql rfl 30 30 _ _ rfl (hC y.1.ky.1) (hC x.1.ky.1) rfl rfl _ (by kernel_rfl) H2.out ?_)); simp only [Act.put, List.setIfInBounds_toArray, List.set_cons_succ, List.set_cons_zero]) | go_big_quiet_step ((first | (go_at_call 9; with_reducible exact Agg.Calls.later (HRY.out _)))))
            refine wpQuiet_nil ?_
            intro _ hw'
            obtain ⟨x6, rfl⟩ := hw'
            go_wp2_with fail
            go_roundw
            case rel => exact ⟨j + 1, fb, by omega, rfl, by go_num, fun hf => noneB_succ (HN.out hf) HY.out (fun e => (by have := HRB.out; rw [e] at this; cases this)), Agg.belowThen HB.out (Nat.le_refl _) x6.h⟩
            case measure => simp [intOf]; omega
          | true =>
          cases e1 with
          | false =>
            try simp only [List.append_eq, List.cons_append, List.nil_append]
            try simp only [Act.put, List.setIfInBounds_toArray, List.set_cons_succ, List.set_cons_zero]
            refine Agg.wp_region_later_lit (by kernel_rfl) (by kernel_rfl) ?_
            repeat (first | go_big_quiet_skip | ((first | (with_reducible refine Agg.wpQuiet_loadL HQ2.out.all rfl _ rfl rfl ?_) | (with_reducible refine Agg.wpQuiet_loadL HQ2.out.cls rfl _ rfl rfl ?_) | (with_reducible refine Agg.wpQuiet_loadL HQ.out.cls rfl _ rfl rfl ?_) | (with_reducible refine Agg.wpQuiet_loadL HQ2.out.key rfl _ rfl rfl ?_) | (with_reducible refine Agg.wpQuiet_loadL HQ.out.key rfl _ rfl rfl ?_) | (with_reducible refine Agg.wpQuiet_loadL HQ2.out.by_ rfl _ rfl rfl ?_) | (with_reducible refine Agg.wpQuiet_loadL HQ.out.by_ rfl _ rfl rfl ?_) | (with_reducible refine Agg.wpQuiet_eql rfl 30 30 _ _ rfl (hC y.1.cl.1) (hC x.1.cl.1) rfl rfl _ (by kernel_rfl) H1.out ?_) | (with_reducible refine Agg.wpQuiet_eql rfl 30 30 _ _ rfl (hC y.1.ky.1) (hC x.1.ky.1) rfl rfl _ (by kernel_rfl) H2.out ?_)); simp only [Act.put, List.setIfInBounds_toArray, List.set_cons_succ, List.set_cons_zero]) | go_big_quiet_step ((first | (go_at_call 9; with_reducible exact Agg.Calls.later (HRY.out _)))))
            refine wpQuiet_nil ?_
            intro _ hw'
            obtain ⟨x6, rfl⟩ := hw'
            go_wp2_with fail
            go_roundw
            case rel => exact ⟨j + 1, fb, by omega, rfl, by go_num, fun hf => noneB_succ (HN.out hf) HY.out (fun _ e => (by have := HPE.out.1 e; simp at this)), Agg.belowThen HB.out (Nat.le_refl _) x6.h⟩
            case measure => simp [intOf]; omega
          | true =>
          cases e2 with
          | false =>
            try simp only [List.append_eq, List.cons_append, List.nil_append]
            try simp only [Act.put, List.setIfInBounds_toArray, List.set_cons_succ, List.set_cons_zero]
            refine Agg.wp_region_later_lit (by kernel_rfl) (by kernel_rfl) ?_
            repeat (first | go_big_quiet_skip | ((first | (with_reducible refine Agg.wpQuiet_loadL HQ2.out.all rfl _ rfl rfl ?_) | (with_reducible refine Agg.wpQuiet_loadL HQ2.out.cls rfl _ rfl rfl ?_) | (with_reducible refine Agg.wpQuiet_loadL HQ.out.cls rfl _ rfl rfl ?_) | (with_reducible refine Agg.wpQuiet_loadL HQ2.out.key rfl _ rfl rfl ?_) | (with_reducible refine Agg.wpQuiet_loadL HQ.out.key rfl _ rfl rfl ?_) | (with_reducible refine Agg.wpQuiet_loadL HQ2.out.by_ rfl _ rfl rfl ?_) | (with_reducible refine Agg.wpQuiet_loadL HQ.out.by_ rfl _ rfl rfl ?_) | (with_reducible refine Agg.wpQuiet_eql rfl 30 30 _ _ rfl (hC y.1.cl.1) (hC x.1.cl.1) rfl rfl _ (by kernel_rfl) H1.out ?_) | (with_reducible refine Agg.wpQuiet_eql rfl 30 30 _ _ rfl (hC y.1.ky.1) (hC x.1.ky.1) rfl rfl _ (by kernel_rfl) H2.out ?_)); simp only [Act.put, List.setIfInBounds_toArray, List.set_cons_succ, List.set_cons_zero]) | go_big_quiet_step ((first | (go_at_call 9; with_reducible exact Agg.Calls.later (HRY.out _)))))
            refine wpQuiet_nil ?_
            intro _ hw'
            obtain ⟨x6, rfl⟩ := hw'
            go_wp2_with fail
            go_roundw
            case rel => exact ⟨j + 1, fb, by omega, rfl, by go_num, fun hf => noneB_succ (HN.out hf) HY.out (fun _ e => (by have := HPE.out.1 e; simp at this)), Agg.belowThen HB.out (Nat.le_refl _) x6.h⟩
            case measure => simp [intOf]; omega
          | true =>
          cases e3 with
          | false =>
            try simp only [List.append_eq, List.cons_append, List.nil_append]
            try simp only [Act.put, List.setIfInBounds_toArray, List.set_cons_succ, List.set_cons_zero]
            refine Agg.wp_region_later_lit (by kernel_rfl) (by kernel_rfl) ?_
            repeat (first | go_big_quiet_skip | ((first | (with_reducible refine Agg.wpQuiet_loadL HQ2.out.all rfl _ rfl rfl ?_) | (with_reducible refine Agg.wpQuiet_loadL HQ2.out.cls rfl _ rfl rfl ?_) | (with_reducible refine Agg.wpQuiet_loadL HQ.out.cls rfl _ rfl rfl ?_) | (with_reducible refine Agg.wpQuiet_loadL HQ2.out.key rfl _ rfl rfl ?_) | (with_reducible refine Agg.wpQuiet_loadL HQ.out.key rfl _ rfl rfl ?_) | (with_reducible refine Agg.wpQuiet_loadL HQ2.out.by_ rfl _ rfl rfl ?_) | (with_reducible refine Agg.wpQuiet_loadL HQ.out.by_ rfl _ rfl rfl ?_) | (with_reducible refine Agg.wpQuiet_eql rfl 30 30 _ _ rfl (hC y.1.cl.1) (hC x.1.cl.1) rfl rfl _ (by kernel_rfl) H1.out ?_) | (with_reducible refine Agg.wpQuiet_eql rfl 30 30 _ _ rfl (hC y.1.ky.1) (hC x.1.ky.1) rfl rfl _ (by kernel_rfl) H2.out ?_)); simp only [Act.put, List.setIfInBounds_toArray, List.set_cons_succ, List.set_cons_zero]) | go_big_quiet_step ((first | (go_at_call 9; with_reducible exact Agg.Calls.later (HRY.out _)))))
            refine wpQuiet_nil ?_
            intro _ hw'
            obtain ⟨x6, rfl⟩ := hw'
            go_wp2_with fail
            go_roundw
            case rel => exact ⟨j + 1, fb, by omega, rfl, by go_num, fun hf => noneB_succ (HN.out hf) HY.out (fun _ e => (by have := HPE.out.1 e; simp at this)), Agg.belowThen HB.out (Nat.le_refl _) x6.h⟩
            case measure => simp [intOf]; omega
          | true =>
          try simp only [List.append_eq, List.cons_append, List.nil_append]
          try simp only [Act.put, List.setIfInBounds_toArray, List.set_cons_succ, List.set_cons_zero]
          refine Agg.wp_region_later_lit (by kernel_rfl) (by kernel_rfl) ?_
          repeat (first | go_big_quiet_skip | ((first | (with_reducible refine Agg.wpQuiet_loadL HQ2.out.all rfl _ rfl rfl ?_) | (with_reducible refine Agg.wpQuiet_loadL HQ2.out.cls rfl _ rfl rfl ?_) | (with_reducible refine Agg.wpQuiet_loadL HQ.out.cls rfl _ rfl rfl ?_) | (with_reducible refine Agg.wpQuiet_loadL HQ2.out.key rfl _ rfl rfl ?_) | (with_reducible refine Agg.wpQuiet_loadL HQ.out.key rfl _ rfl rfl ?_) | (with_reducible refine Agg.wpQuiet_loadL HQ2.out.by_ rfl _ rfl rfl ?_) | (with_reducible refine Agg.wpQuiet_loadL HQ.out.by_ rfl _ rfl rfl ?_) | (with_reducible refine Agg.wpQuiet_eql rfl 30 30 _ _ rfl (hC y.1.cl.1) (hC x.1.cl.1) rfl rfl _ (by kernel_rfl) H1.out ?_) | (with_reducible refine Agg.wpQuiet_eql rfl 30 30 _ _ rfl (hC y.1.ky.1) (hC x.1.ky.1) rfl rfl _ (by kernel_rfl) H2.out ?_)); simp only [Act.put, List.setIfInBounds_toArray, List.set_cons_succ, List.set_cons_zero]) | go_big_quiet_step ((first | (go_at_call 9; with_reducible exact Agg.Calls.later (HRY.out _)))))
          refine wpQuiet_nil ?_
          intro _ hw'
          obtain ⟨x6, rfl⟩ := hw'
          go_wp2_with fail
          go_roundw
          case rel => exact ⟨j + 1, false, by omega, rfl, by go_num, fun hf => (by cases hf), Agg.belowThen HB.out (Nat.le_refl _) x6.h⟩
          case measure => simp [intOf]; omega
        · obtain rfl : j = k := by omega
          have hdj : decide ((j : Int) < (j : Int)) = false := by simp
          have HQ7 := HQ
          have HIX7 := Lib.hid (HIX6.out.below hws)
          have HA7 := Lib.hid (HA6.out.below hws)
          have HR7 := Lib.hid (Agg.belowThen HR6.out (Nat.le_refl _) hws)
          clear hws HQ HB
          go_wp2_with fail
          go_loopw [10, 11] (fun n i wt => ∃ m : Nat, m ≤ lvA.length ∧ n = .int .i64 ((cntB lvA x m : Nat) : Int) ∧ i = .int .i64 (m : Int) ∧ Below ws1.heap.size ws1 wt) (fun _ i _ => lvA.length - (intOf i).toNat)
          case atStart => exact ⟨0, by omega, by rw [cntB_zero]; rfl, rfl, Below.refl _ _⟩
          case round =>
            obtain ⟨wt1, rfl⟩ : ∃ y : World, y = wr := ⟨_, rfl⟩
            obtain ⟨m, hm, rfl, rfl, hwt⟩ := hrel
            have hcl := cntB_le lvA x m
            have HB := Lib.hid hwt
            have HQ := Lib.hid (HQ7.out.below hwt)
            have HIX := Lib.hid (HIX7.out.below hwt)
            by_cases hml : m < lvA.length
            · have hdm : decide ((m : Int) < (lvA.length : Int)) = true := decide_eq_true (by omega)
              obtain ⟨y, hym⟩ : ∃ y, lvA[m]? = some y := ⟨_, List.getElem?_eq_getElem hml⟩
              obtain ⟨q2, hadr2, hq2, hin2⟩ := (HA7.out.below hwt).at_ m y hym
              have HQ2 := Lib.hid hq2
              have HY := Lib.hid hym
              have HIY := Lib.hid hin2
              clear hq2 hym hin2 hwt
              obtain ⟨e1, h1⟩ : ∃ e, decide (y.1.cl = x.1.cl) = e := ⟨_, rfl⟩
              obtain ⟨e2, h2⟩ : ∃ e, decide (y.1.ky = x.1.ky) = e := ⟨_, rfl⟩
              obtain ⟨e3, h3⟩ : ∃ e, (y.1.by_ == x.1.by_) = e := ⟨_, rfl⟩
              have HPE := Lib.hid (show (plOf y.1 = plOf x.1) ↔ (e1 && (e2 && e3)) = true by rw [pl_eq, h1, h2, h3])
              have H1 := Lib.hid (fun W => (show (binOp .eql 30 (.agg (hC y.1.cl.1)) (.agg (hC x.1.cl.1))).run Try.prog W = .ok (.bool e1) W by rw [eqlHB, h1]))
              have H2 := Lib.hid (fun W => (show (binOp .eql 30 (.agg (hC y.1.ky.1)) (.agg (hC x.1.ky.1))).run Try.prog W = .ok (.bool e2) W by rw [eqlHB, h2]))
              clear h1 h2
              go_wp2_with fail
              cases e1 with
              | false =>
                try simp only [List.append_eq, List.cons_append, List.nil_append]
                try simp only [Act.put, List.setIfInBounds_toArray, List.set_cons_succ, List.set_cons_zero]
                refine Agg.wp_region_later_lit (by kernel_rfl) (by kernel_rfl) ?_
                repeat (first | go_big_quiet_skip | ((first | (with_reducible refine Agg.wpQuiet_loadL HQ2.out.cls rfl _ rfl rfl ?_) | (with_reducible refine Agg.wpQuiet_loadL HQ.out.cls rfl _ rfl rfl ?_) | (with_reducible refine Agg.wpQuiet_loadL HQ2.out.key rfl _ rfl rfl ?_) | (with_reducible refine Agg.wpQuiet_loadL HQ.out.key rfl _ rfl rfl ?_) | (with_reducible refine Agg.wpQuiet_loadL HQ2.out.by_ rfl _ rfl rfl ?_) | (with_reducible refine Agg.wpQuiet_loadL HQ.out.by_ rfl _ rfl rfl ?_) | (with_reducible refine Agg.wpQuiet_eql rfl 30 30 _ _ rfl (hC y.1.cl.1) (hC x.1.cl.1) rfl rfl _ (by kernel_rfl) H1.out ?_) | (with_reducible refine Agg.wpQuiet_eql rfl 30 30 _ _ rfl (hC y.1.ky.1) (hC x.1.ky.1) rfl rfl _ (by kernel_rfl) H2.out ?_)); simp only [Act.put, List.setIfInBounds_toArray, List.set_cons_succ, List.set_cons_zero]) | go_big_quiet_step (fail))
                refine wpQuiet_nil ?_
                intro _ hw'
                obtain ⟨x6, rfl⟩ := hw'
                go_wp2_with fail
                go_roundw
                case rel => exact ⟨m + 1, by omega, by rw [cntB_succ HY.out, if_neg (fun e => by have := HPE.out.1 e; simp at this)]; rfl, by go_num, Agg.belowThen HB.out (Nat.le_refl _) x6.h⟩
                case measure => simp [intOf]; omega
              | true =>
              cases e2 with
              | false =>
                try simp only [List.append_eq, List.cons_append, List.nil_append]
                try simp only [Act.put, List.setIfInBounds_toArray, List.set_cons_succ, List.set_cons_zero]
                refine Agg.wp_region_later_lit (by kernel_rfl) (by kernel_rfl) ?_
                repeat (first | go_big_quiet_skip | ((first | (with_reducible refine Agg.wpQuiet_loadL HQ2.out.cls rfl _ rfl rfl ?_) | (with_reducible refine Agg.wpQuiet_loadL HQ.out.cls rfl _ rfl rfl ?_) | (with_reducible refine Agg.wpQuiet_loadL HQ2.out.key rfl _ rfl rfl ?_) | (with_reducible refine Agg.wpQuiet_loadL HQ.out.key rfl _ rfl rfl ?_) | (with_reducible refine Agg.wpQuiet_loadL HQ2.out.by_ rfl _ rfl rfl ?_) | (with_reducible refine Agg.wpQuiet_loadL HQ.out.by_ rfl _ rfl rfl ?_) | (with_reducible refine Agg.wpQuiet_eql rfl 30 30 _ _ rfl (hC y.1.cl.1) (hC x.1.cl.1) rfl rfl _ (by kernel_rfl) H1.out ?_) | (with_reducible refine Agg.wpQuiet_eql rfl 30 30 _ _ rfl (hC y.1.ky.1) (hC x.1.ky.1) rfl rfl _ (by kernel_rfl) H2.out ?_)); simp only [Act.put, List.setIfInBounds_toArray, List.set_cons_succ, List.set_cons_zero]) | go_big_quiet_step (fail))
                refine wpQuiet_nil ?_
                intro _ hw'
                obtain ⟨x6, rfl⟩ := hw'
                go_wp2_with fail
                go_roundw
                case rel => exact ⟨m + 1, by omega, by rw [cntB_succ HY.out, if_neg (fun e => by have := HPE.out.1 e; simp at this)]; rfl, by go_num, Agg.belowThen HB.out (Nat.le_refl _) x6.h⟩
                case measure => simp [intOf]; omega
              | true =>
              cases e3 with
              | false =>
                try simp only [List.append_eq, List.cons_append, List.nil_append]
                try simp only [Act.put, List.setIfInBounds_toArray, List.set_cons_succ, List.set_cons_zero]
                refine Agg.wp_region_later_lit (by kernel_rfl) (by kernel_rfl) ?_
                repeat (first | go_big_quiet_skip | ((first | (with_reducible refine Agg.wpQuiet_loadL HQ2.out.cls rfl _ rfl rfl ?_) | (with_reducible refine Agg.wpQuiet_loadL HQ.out.cls rfl _ rfl rfl ?_) | (with_reducible refine Agg.wpQuiet_loadL HQ2.out.key rfl _ rfl rfl ?_) | (with_reducible refine Agg.wpQuiet_loadL HQ.out.key rfl _ rfl rfl ?_) | (with_reducible refine Agg.wpQuiet_loadL HQ2.out.by_ rfl _ rfl rfl ?_) | (with_reducible refine Agg.wpQuiet_loadL HQ.out.by_ rfl _ rfl rfl ?_) | (with_reducible refine Agg.wpQuiet_eql rfl 30 30 _ _ rfl (hC y.1.cl.1) (hC x.1.cl.1) rfl rfl _ (by kernel_rfl) H1.out ?_) | (with_reducible refine Agg.wpQuiet_eql rfl 30 30 _ _ rfl (hC y.1.ky.1) (hC x.1.ky.1) rfl rfl _ (by kernel_rfl) H2.out ?_)); simp only [Act.put, List.setIfInBounds_toArray, List.set_cons_succ, List.set_cons_zero]) | go_big_quiet_step (fail))
                refine wpQuiet_nil ?_
                intro _ hw'
                obtain ⟨x6, rfl⟩ := hw'
                go_wp2_with fail
                go_roundw
                case rel => exact ⟨m + 1, by omega, by rw [cntB_succ HY.out, if_neg (fun e => by have := HPE.out.1 e; simp at this)]; rfl, by go_num, Agg.belowThen HB.out (Nat.le_refl _) x6.h⟩
                case measure => simp [intOf]; omega
              | true =>
              try simp only [List.append_eq, List.cons_append, List.nil_append]
              try simp only [Act.put, List.setIfInBounds_toArray, List.set_cons_succ, List.set_cons_zero]
              refine Agg.wp_region_later_lit (by kernel_rfl) (by kernel_rfl) ?_
              repeat (first | go_big_quiet_skip | ((first | (with_reducible refine Agg.wpQuiet_loadL HQ2.out.cls rfl _ rfl rfl ?_) | (with_reducible refine Agg.wpQuiet_loadL HQ.out.cls rfl _ rfl rfl ?_) | (with_reducible refine Agg.wpQuiet_loadL HQ2.out.key rfl _ rfl rfl ?_) | (with_reducible refine Agg.wpQuiet_loadL HQ.out.key rfl _ rfl rfl ?_) | (with_reducible refine Agg.wpQuiet_loadL HQ2.out.by_ rfl _ rfl rfl ?_) | (with_reducible refine Agg.wpQuiet_loadL HQ.out.by_ rfl _ rfl rfl ?_) | (with_reducible refine Agg.wpQuiet_eql rfl 30 30 _ _ rfl (hC y.1.cl.1) (hC x.1.cl.1) rfl rfl _ (by kernel_rfl) H1.out ?_) | (with_reducible refine Agg.wpQuiet_eql rfl 30 30 _ _ rfl (hC y.1.ky.1) (hC x.1.ky.1) rfl rfl _ (by kernel_rfl) H2.out ?_)); simp only [Act.put, List.setIfInBounds_toArray, List.set_cons_succ, List.set_cons_zero]) | go_big_quiet_step (fail))
              refine wpQuiet_nil ?_
              intro _ hw'
              obtain ⟨x6, rfl⟩ := hw'
              have hpe : plOf y.1 = plOf x.1 := HPE.out.2 rfl
              have HPL := Lib.hid hpe
              clear hpe
              have HB6 := Lib.hid (Agg.belowThen HB.out (Nat.le_refl _) x6.h)
              have HQ := Lib.hid (HQ.out.below x6.h)
              have HQ2 := Lib.hid (HQ2.out.below x6.h)
              have HIX6 := Lib.hid (HIX.out.below x6.h)
              have HIY6 := Lib.hid (HIY.out.below x6.h)
              generalize x6.w = w6 at *
              cases fb with
              | false =>
                go_wp2_with fail
                try simp only [List.append_eq, List.cons_append, List.nil_append]
                try simp only [Act.put, List.setIfInBounds_toArray, List.set_cons_succ, List.set_cons_zero]
                refine Agg.wp_region_later_lit (by kernel_rfl) (by kernel_rfl) ?_
                repeat (first | go_big_quiet_skip | ((first | (with_reducible refine Agg.wpQuiet_loadL HQ2.out.all rfl _ rfl rfl ?_) | (with_reducible refine Agg.wpQuiet_loadL HQ.out.all rfl _ rfl rfl ?_)); simp only [Act.put, List.setIfInBounds_toArray, List.set_cons_succ, List.set_cons_zero]) | go_big_quiet_step ((first | (go_at_call 10; with_reducible exact Agg.Calls.later (HSB.out _)))))
                refine wpQuiet_nil ?_
                intro _ hw'
                obtain ⟨x7, rfl⟩ := hw'
                go_wp2_with fail
                go_roundw
                case rel => exact ⟨m + 1, by omega, by rw [cntB_succ HY.out, if_pos HPL.out]; go_num, by go_num, Agg.belowThen HB6.out (Nat.le_refl _) x7.h⟩
                case measure => simp [intOf]; omega
              | true =>
                have hyx : y.1 = x.1 := grown_first HG.out HX.out HRX.out (HN.out rfl) HY.out HPL.out
                have HSB := Lib.hid (fun z : Later w6 => (show Calls Try.prog 10 #[.agg (bC y), .agg (bC x)] z.w fun t w' => t = .returned (.bool true) ∧ Below z.w.heap.size z.w w' by have := sameBu_any y x (by rw [hyx]; exact hnx) z.w (HIY6.out.below z.h) (HIX6.out.below z.h); rwa [decide_eq_true hyx] at this))
                clear hyx
                go_wp2_with fail
                try simp only [List.append_eq, List.cons_append, List.nil_append]
                try simp only [Act.put, List.setIfInBounds_toArray, List.set_cons_succ, List.set_cons_zero]
                refine Agg.wp_region_later_lit (by kernel_rfl) (by kernel_rfl) ?_
                repeat (first | go_big_quiet_skip | ((first | (with_reducible refine Agg.wpQuiet_loadL HQ2.out.all rfl _ rfl rfl ?_) | (with_reducible refine Agg.wpQuiet_loadL HQ.out.all rfl _ rfl rfl ?_)); simp only [Act.put, List.setIfInBounds_toArray, List.set_cons_succ, List.set_cons_zero]) | go_big_quiet_step ((first | (go_at_call 10; with_reducible exact Agg.Calls.later (HSB.out _)))))
                refine wpQuiet_nil ?_
                intro _ hw'
                obtain ⟨x7, rfl⟩ := hw'
                go_wp2_with fail
                go_roundw
                case rel => exact ⟨m + 1, by omega, by rw [cntB_succ HY.out, if_pos HPL.out]; go_num, by go_num, Agg.belowThen HB6.out (Nat.le_refl _) x7.h⟩
                case measure => simp [intOf]; omega
            · obtain rfl : m = lvA.length := by omega
              have h1 : cntB lvA x lvA.length = 1 := by rw [cntB_all]; exact HG.out.one ltPl_ord (List.mem_map.2 ⟨x, List.mem_of_getElem? HX.out, rfl⟩) HRX.out
              rw [h1]
              have HRE := Lib.hid (Agg.belowThen HR7.out (Nat.le_refl _) hwt)
              clear hwt h1 hcl
              go_wp2_with fail
              go_roundw
              case rel => exact ⟨j + 1, by omega, by go_num, HRE.out⟩
              case measure => simp [intOf]; omega
    · obtain rfl : k = l.length := by omega
      have hd : decide ((l.length : Int) < (l.length : Int)) = false := by simp
      go_wp2_with fail
      refine (pick_any turn (l.length + 1) (by omega) (by omega) wr1).mono ?_
      rintro e w9 ⟨⟨K, hK1, rfl⟩, rfl⟩
      have hK : K ≤ l.length := by omega
      have HW9 := HW5
      have HA9 := HA5
      obtain ⟨vLo, hlo, hslo⟩ : ∃ vLo, (∀ W, (Instr.sliceAt 22 (.slice p l.length c) (some (.int .i64 (K : Int))) none none).run Try.prog W = .ok vLo W) ∧ SliceOf EBu w9 vLo (l.drop K) := ⟨_, fun W => EBu.runLow p l.length c K hK W, SliceOf.low HSW.out.row HCAP.out K hK⟩
      have HLO := Lib.hid hlo
      have HSL := Lib.hid hslo
      clear hlo hslo
      have HHI := Lib.hid (fun W => (show (Instr.sliceAt 22 (.slice p l.length c) none (some (.int .i64 (K : Int))) none).run Try.prog W = .ok (.slice p K c) W from EBu.runHigh p l.length c K (by have := HCAP.out; omega) W))
      go_wp2_with fail
      obtain ⟨w0, hw0⟩ : ∃ W, W = w9.drew := ⟨_, rfl⟩
      have hd0 : Below w9.heap.size w9 w0 := by rw [hw0]; exact (Below.refl _ _).drew
      have HS0 := Lib.hid (HSW.out.below hd0)
      have HA0 := Lib.hid (HA9.out.below hd0)
      have HSL0 := Lib.hid (SliceOf.below HSL.out hd0)
      have HW0 := Lib.hid (Agg.belowThen HW9.out (Nat.le_refl _) hd0)
      try simp only [List.append_eq, List.cons_append, List.nil_append]
      try simp only [Act.put, List.setIfInBounds_toArray, List.set_cons_succ, List.set_cons_zero]
      refine wp_region_any (by kernel_rfl) ?_
      change wpAny _ _ _ _ _ _ _ w9.drew
      rw [← hw0]
      clear hw0 hd0
      refine Agg.any_take 1 ((.slice p l.length c)) rfl (by kernel_rfl) (fun _ _ _ h => h) rfl (fun W => by kernel_rfl) ?_
      try simp only [Act.put, List.setIfInBounds_toArray, List.set_cons_succ, List.set_cons_zero]
      refine Agg.any_take 2 (.int .i64 (K : Int)) rfl (by kernel_rfl) (fun _ _ _ h => h) rfl (fun W => by kernel_rfl) ?_
      try simp only [Act.put, List.setIfInBounds_toArray, List.set_cons_succ, List.set_cons_zero]
      refine Agg.any_take 3 (vLo) rfl (by kernel_rfl) (fun _ _ _ h => h) rfl (fun W => exec_sliceB rfl rfl rfl (HLO.out W)) ?_
      try simp only [Act.put, List.setIfInBounds_toArray, List.set_cons_succ, List.set_cons_zero]
      refine Agg.any_take 5 ((.slice p l.length c)) rfl (by kernel_rfl) (fun _ _ _ h => h) rfl (fun W => by kernel_rfl) ?_
      try simp only [Act.put, List.setIfInBounds_toArray, List.set_cons_succ, List.set_cons_zero]
      refine Agg.any_take 6 (.int .i64 (K : Int)) rfl (by kernel_rfl) (fun _ _ _ h => h) rfl (fun W => by kernel_rfl) ?_
      try simp only [Act.put, List.setIfInBounds_toArray, List.set_cons_succ, List.set_cons_zero]
      refine Agg.any_take 7 ((.slice p K c)) rfl (by kernel_rfl) (fun _ _ _ h => h) rfl (fun W => exec_sliceH rfl rfl rfl (HHI.out W)) ?_
      try simp only [Act.put, List.setIfInBounds_toArray, List.set_cons_succ, List.set_cons_zero]
      refine Agg.any_ready [0] (by kernel_rfl) (by simp) ?_
      refine Agg.any_cons rfl ?_ ?_
      · refine step_slice0 EBu rfl rfl ?_
        intro u0 w10 ho hx
        have HO0 := Lib.hid (ho.lower (Nat.le_refl _))
        have HX10 := Lib.hid hx
        clear ho hx
        try simp only [Act.put, List.setIfInBounds_toArray, List.set_cons_succ, List.set_cons_zero]
        refine Agg.any_ready [4] (by kernel_rfl) (by simp) ?_
        refine Agg.any_cons rfl ?_ ?_
        · refine step_appendS (E := EBu) (base := w0.heap.size) rfl _ _ rfl vLo rfl rfl (l.drop K) HO0.out (SliceOf.below HSL0.out HX10.out) (by simp; omega) (by decide) HX10.out.size ?_
          intro u4 w11 ho hp
          have HX11 := Lib.hid (HX10.out.trans (hp.below w0.heap.size (Nat.le_refl _) HX10.out.size))
          have HO4 := Lib.hid (show Own EBu w0.heap.size w11 u4 (l.drop K) from by simpa using ho)
          clear ho hp
          try simp only [Act.put, List.setIfInBounds_toArray, List.set_cons_succ, List.set_cons_zero]
          refine Agg.any_ready [8] (by kernel_rfl) (by simp) ?_
          refine Agg.any_cons rfl ?_ ?_
          · refine step_appendS (E := EBu) (base := w0.heap.size) rfl _ _ rfl (.slice p K c) rfl rfl (l.take K) HO4.out (SliceOf.below (SliceOf.high HS0.out.row K hK) HX11.out) (by simp; omega) (by decide) HX11.out.size ?_
            intro u8 w12 ho hp
            have HX12 := Lib.hid (HX11.out.trans (hp.below w0.heap.size (Nat.le_refl _) HX11.out.size))
            have HT12 := Lib.hid (⟨ho.slice, fun z hz => (HS0.out.ins z (by rcases List.mem_append.1 hz with h | h; exact List.mem_of_mem_drop h; exact List.mem_of_mem_take h)).below HX12.out⟩ : BusAt w12 u8 (l.drop K ++ l.take K))
            clear ho hp
            try simp only [Act.put, List.setIfInBounds_toArray, List.set_cons_succ, List.set_cons_zero]
            refine Agg.any_ready [9] (by kernel_rfl) (by simp) ?_
            refine Agg.any_cons rfl ?_ ?_
            · refine Agg.step_call rfl 7 _ _ rfl #[u8] (by simp only [List.map_toArray, List.map_cons, List.map_nil]; rfl) (fun W => HEG.out _ W) ?_
              refine (grown_any u8 (l.drop K ++ l.take K) (by simp; omega) (fun z hz => HNI.out z (by rcases List.mem_append.1 hz with h | h; exact List.mem_of_mem_drop h; exact List.mem_of_mem_take h)) w12 HT12.out).mono ?_
              rintro e w13 hgo
              unfold GrownO at hgo
              obtain ⟨vB, cb2, lvB, rfl, hg2, hb2, hl2, hx⟩ := hgo
              have HG2 := Lib.hid hg2
              have HB2 := Lib.hid hb2
              have HX13 := Lib.hid (Agg.belowThen HX12.out (Nat.le_refl _) hx)
              clear hg2 hb2 hx
              refine ⟨_, rfl, ?_⟩
              try simp only [Act.put, List.setIfInBounds_toArray, List.set_cons_succ, List.set_cons_zero]
              refine Agg.any_take 10 ((.tuple #[vB, .bool cb2])) rfl (by kernel_rfl) (fun _ _ _ h => h) rfl (fun W => by kernel_rfl) ?_
              try simp only [Act.put, List.setIfInBounds_toArray, List.set_cons_succ, List.set_cons_zero]
              refine Agg.any_take 11 (vB) rfl (by kernel_rfl) (fun _ _ _ h => h) rfl (fun W => by kernel_rfl) ?_
              try simp only [Act.put, List.setIfInBounds_toArray, List.set_cons_succ, List.set_cons_zero]
              refine Agg.any_take 12 (.bool cb2) rfl (by kernel_rfl) (fun _ _ _ h => h) rfl (fun W => by kernel_rfl) ?_
              try simp only [Act.put, List.setIfInBounds_toArray, List.set_cons_succ, List.set_cons_zero]
              refine Agg.any_take 13 (vB) rfl (by kernel_rfl) (fun _ _ _ h => h) rfl (fun W => by kernel_rfl) ?_
              try simp only [Act.put, List.setIfInBounds_toArray, List.set_cons_succ, List.set_cons_zero]
              refine Agg.any_take 14 (.bool cb2) rfl (by kernel_rfl) (fun _ _ _ h => h) rfl (fun W => by kernel_rfl) ?_
              try simp only [Act.put, List.setIfInBounds_toArray, List.set_cons_succ, List.set_cons_zero]
              refine Agg.any_end (by kernel_rfl) ?_
              obtain ⟨hcc, hab⟩ := HG.out.turned ltPl_ord HG2.out (turn_mem l K)
              subst hcc
              have HWE := Lib.hid (Agg.belowThen HW0.out (Nat.le_refl _) HX13.out)
              cases cb with
              | false =>
                go_wp2_with fail
                go_ret
                exact ⟨rfl, HWE.out⟩
              | true =>
                have HAB := Lib.hid (hab rfl)
                clear hab
                go_wp2_with fail
                refine (sameBus_any vA vB lvA lvB (by omega) HNA.out w13 (HA0.out.below HX13.out) HB2.out).mono ?_
                rintro e w14 ⟨rfl, hx14⟩
                rw [decide_eq_true HAB.out]
                have HWF := Lib.hid (Agg.belowThen HWE.out (Nat.le_refl _) hx14)
                clear hx14
                go_wp2_with fail
                go_ret
                exact ⟨rfl, HWF.out⟩
            exact AllReady.nil
          exact AllReady.nil
        exact AllReady.nil
      exact AllReady.nil
end Go.Proofs.Ytniibcgomnjfgaa
