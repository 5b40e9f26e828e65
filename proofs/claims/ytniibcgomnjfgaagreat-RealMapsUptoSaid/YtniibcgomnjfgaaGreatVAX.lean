/- spenceref22.path (Several texts in one.) -/
import Derived.Test.YtniibcgomnjfgaaGreatVAW
import Derived.Test.YtniibcgomnjfgaaGreatVAS
import Derived.Test.YtniibcgomnjfgaaGreatVAT
import Derived.Test.YtniibcgomnjfgaaGreatVAU
import Derived.Shelf.Abstract
import Derived.Test.YtniibcgomnjfgaaGreatVAV
/-! Comparison of strings, as operations. -/
namespace Go.Agg
open Go.RowKit
section
variable {P : Program} {ops : Array Oper} {rest : List Oper} {o : Oper} {a : Act} {w : World} {Q : Exit → Act → World → Prop} {t u : TypeId} {x y : Operand} {s r : List UInt8}
theorem exec_geqS (ho : o.op = .binOp .geq t x y u) (hx : a.eval x = .string ⟨s.toArray⟩) (hy : a.eval y = .string ⟨r.toArray⟩) : (execOp a.eval o).run P w = .ok (.value (.bool (!Op.bytesLess s r))) w := by
  simp only [execOp, ho, hx, hy]
  simp only [binOp, Op.stringOp, bytes_toList, eqGuard]
  first | rfl | simp
theorem exec_eqlS (ho : o.op = .binOp .eql t x y u) (hx : a.eval x = .string ⟨s.toArray⟩) (hy : a.eval y = .string ⟨r.toArray⟩) : (execOp a.eval o).run P w = .ok (.value (.bool (decide (s = r)))) w := by
  rw [← show (s == r) = decide (s = r) from by by_cases h : s = r <;> simp [h]]
  simp only [execOp, ho, hx, hy]
  simp only [binOp, Op.stringOp, bytes_toList, eqGuard]
  first | rfl | simp
theorem exec_neqS (ho : o.op = .binOp .neq t x y u) (hx : a.eval x = .string ⟨s.toArray⟩) (hy : a.eval y = .string ⟨r.toArray⟩) : (execOp a.eval o).run P w = .ok (.value (.bool (!decide (s = r)))) w := by
  rw [← show (s == r) = decide (s = r) from by by_cases h : s = r <;> simp [h]]
  simp only [execOp, ho, hx, hy]
  simp only [binOp, Op.stringOp, bytes_toList, eqGuard]
  first | rfl | simp
theorem wpQuiet_geqS {C : World → Prop} {Q : Act → Prop} (hw : Region.wanted o (yielded ops a.tmps) = true) (ho : o.op = .binOp .geq t x y u) (hx : a.eval x = .string ⟨s.toArray⟩) (hy : a.eval y = .string ⟨r.toArray⟩) (b : Bool) (hb : (!Op.bytesLess s r) = b)
    (h : wpQuiet P ops C Q rest (a.put o.dst (.bool b))) : wpQuiet P ops C Q (o :: rest) a := by
  subst hb
  exact wpQuiet_val hw _ (fun _ _ => exec_geqS ho hx hy) h
theorem wpQuiet_eqlS {C : World → Prop} {Q : Act → Prop} (hw : Region.wanted o (yielded ops a.tmps) = true) (ho : o.op = .binOp .eql t x y u) (hx : a.eval x = .string ⟨s.toArray⟩) (hy : a.eval y = .string ⟨r.toArray⟩) (b : Bool) (hb : decide (s = r) = b)
    (h : wpQuiet P ops C Q rest (a.put o.dst (.bool b))) : wpQuiet P ops C Q (o :: rest) a := by
  subst hb
  exact wpQuiet_val hw _ (fun _ _ => exec_eqlS ho hx hy) h
theorem wpQuiet_neqS {C : World → Prop} {Q : Act → Prop} (hw : Region.wanted o (yielded ops a.tmps) = true) (ho : o.op = .binOp .neq t x y u) (hx : a.eval x = .string ⟨s.toArray⟩) (hy : a.eval y = .string ⟨r.toArray⟩) (b : Bool) (hb : (!decide (s = r)) = b)
    (h : wpQuiet P ops C Q rest (a.put o.dst (.bool b))) : wpQuiet P ops C Q (o :: rest) a := by
  subst hb
  exact wpQuiet_val hw _ (fun _ _ => exec_neqS ho hx hy) h
theorem wpList_eqlS (hw : Region.wanted o (yielded ops a.tmps) = true) (ho : o.op = .binOp .eql t x y u) (hx : a.eval x = .string ⟨s.toArray⟩) (hy : a.eval y = .string ⟨r.toArray⟩) (b : Bool) (hb : decide (s = r) = b) (h : wpList P ops Q rest (a.put o.dst (.bool b)) w) : wpList P ops Q (o :: rest) a w := by
  subst hb
  exact wpList_valw hw (exec_eqlS ho hx hy) h
theorem wpList_neqS (hw : Region.wanted o (yielded ops a.tmps) = true) (ho : o.op = .binOp .neq t x y u) (hx : a.eval x = .string ⟨s.toArray⟩) (hy : a.eval y = .string ⟨r.toArray⟩) (b : Bool) (hb : (!decide (s = r)) = b) (h : wpList P ops Q rest (a.put o.dst (.bool b)) w) : wpList P ops Q (o :: rest) a w := by
  subst hb
  exact wpList_valw hw (exec_neqS ho hx hy) h
theorem wpList_geqS (hw : Region.wanted o (yielded ops a.tmps) = true) (ho : o.op = .binOp .geq t x y u) (hx : a.eval x = .string ⟨s.toArray⟩) (hy : a.eval y = .string ⟨r.toArray⟩) (b : Bool) (hb : (!Op.bytesLess s r) = b) (h : wpList P ops Q rest (a.put o.dst (.bool b)) w) : wpList P ops Q (o :: rest) a w := by
  subst hb
  exact wpList_valw hw (exec_geqS ho hx hy) h
end
end Go.Agg
/-! spenceref22.Map of any builts. -/
namespace Go.Proofs.YtniibcgomnjfgaaGreat
open Go.RowKit Pl Go.Agg
/-- names that are not too long -/
def SmallB (x : Bu) : Prop := x.pa.1.2.length ≤ 1048576 ∧ ∀ m ∈ x.ins, m.2.1.2.length ≤ 1048576
theorem refRightS_any (x : BuV) (hs : SmallB x.1) (w : World) (hi : InsAt w x) : Calls Tryz.prog 45 #[.agg (bC x)] w fun e w' => e = .returned (.bool (rightBu x.1)) ∧ Below w.heap.size w w' := refRightB_any x hs.1 hs.2 w hi
set_option maxRecDepth 100000 in
set_option maxHeartbeats 8000000 in
theorem refMapB_any (v : Value) (l : List BuV) (hn : l.length ≤ 1048576) (hsm : ∀ x ∈ l, SmallB x.1) (w : World) (hs : BusAt w v l) :
    Calls Tryz.prog 17 #[v] w fun e w' => ∃ b, e = .returned (.bool b) ∧ (b = true ↔ MapB (l.map (·.1))) ∧ Below w.heap.size w w' := by
  have HS := Lib.hid hs
  have HSM := Lib.hid hsm
  have hlv := fun W => bus_len hs W
  clear hs hsm
  go_enter Tryz.func17, Tryz.ntmps17
  go_wp2_with fail
  go_loopw [3] (fun i wr => ∃ k : Nat, k ≤ l.length ∧ i = .int .i64 k ∧ MapU l k ∧ Below w.heap.size w wr) (fun i _ => l.length - (intOf i).toNat)
  case atStart => exact ⟨0, by omega, rfl, mapU_zero l, Below.refl _ _⟩
  case round =>
    obtain ⟨wr1, rfl⟩ : ∃ y : World, y = wr := ⟨_, rfl⟩
    obtain ⟨k, hk, rfl, hm, hw⟩ := hrel
    have HM := Lib.hid hm
    have HW := Lib.hid hw
    clear hm hw
    by_cases hlt : k < l.length
    · have hd : decide ((k : Int) < (l.length : Int)) = true := by simp; omega
      obtain ⟨x, hxk⟩ : ∃ x, l[k]? = some x := ⟨_, List.getElem?_eq_getElem hlt⟩
      obtain ⟨q, hadr, hq, hin⟩ := (HS.out.below HW.out).at_ k x hxk
      have HSX := Lib.hid (HSM.out x (List.mem_of_getElem? hxk))
      have HQ := Lib.hid hq
      have HX := Lib.hid hxk
      have HI := Lib.hid hin
      have HS3 := Lib.hid (HS.out.below HW.out)
      clear hq hxk hin
      go_wp2_with fail
      cases hr : rightBu x.1 with
      | false =>
        have HR := Lib.hid (fun y : Later wr1 => (show Calls Tryz.prog 45 #[.agg (bC x)] y.w fun e w' => e = .returned (.bool false) ∧ Below y.w.heap.size y.w w' by have := refRightS_any x HSX.out y.w (HI.out.below y.h); rwa [hr] at this))
        have HNO := Lib.hid (mapU_not HX.out (.inl hr))
        clear hr
        try simp only [Act.put, List.setIfInBounds_toArray, List.set_cons_succ, List.set_cons_zero]
        refine Agg.wp_region_later_lit (by kernel_rfl) (by kernel_rfl) ?_
        repeat (first | go_big_quiet_skip | ((first | (with_reducible refine Agg.wpQuiet_loadL HQ.out.all rfl _ rfl rfl ?_)); simp only [Act.put, List.setIfInBounds_toArray, List.set_cons_succ, List.set_cons_zero]) | go_big_quiet_step ((first | (go_at_call 45; exact Agg.Calls.later (HR.out _)))))
        refine wpQuiet_nil ?_
        intro _ hw'
        obtain ⟨x4, rfl⟩ := hw'
        go_wp2_with fail
        go_ret
        exact ⟨false, rfl, HNO.out, Agg.belowThen HW.out (Nat.le_refl _) x4.h⟩
      | true =>
        have HR := Lib.hid (fun y : Later wr1 => (show Calls Tryz.prog 45 #[.agg (bC x)] y.w fun e w' => e = .returned (.bool true) ∧ Below y.w.heap.size y.w w' by have := refRightS_any x HSX.out y.w (HI.out.below y.h); rwa [hr] at this))
        have HRR := Lib.hid hr
        clear hr
        by_cases h0 : k = 0
        · have hd0 : decide ((0 : Int) < (k : Int)) = false := by simp [h0]
          have hdN : decide (0 < k) = false := by simp [h0]
          have H0 := Lib.hid h0
          clear h0
          try simp only [Act.put, List.setIfInBounds_toArray, List.set_cons_succ, List.set_cons_zero]
          refine Agg.wp_region_later_lit (by kernel_rfl) (by kernel_rfl) ?_
          repeat (first | go_big_quiet_skip | ((first | (with_reducible refine Agg.wpQuiet_loadL HQ.out.all rfl _ rfl rfl ?_)); simp only [Act.put, List.setIfInBounds_toArray, List.set_cons_succ, List.set_cons_zero]) | go_big_quiet_step ((first | (go_at_call 45; exact Agg.Calls.later (HR.out _)))))
          refine wpQuiet_nil ?_
          intro _ hw'
          obtain ⟨x4, rfl⟩ := hw'
          go_wp2_with fail
          go_roundw
          case rel => exact ⟨k + 1, by omega, by go_num, mapU_succ HM.out HX.out HRR.out (fun j y e => absurd e (by have := H0.out; omega)), Agg.belowThen HW.out (Nat.le_refl _) x4.h⟩
          case measure => simp [intOf]; omega
        · obtain ⟨j, hjk⟩ : ∃ j, k = j + 1 := ⟨k - 1, by omega⟩
          have hd0 : decide ((0 : Int) < (k : Int)) = true := decide_eq_true (by omega)
          have hdN : decide (0 < k) = true := decide_eq_true (by omega)
          obtain ⟨y, hyk⟩ : ∃ y, l[j]? = some y := ⟨_, List.getElem?_eq_getElem (by omega)⟩
          obtain ⟨q2, hadr2, hq2, hin2⟩ := HS3.out.at_ j y hyk
          have HQ2 := Lib.hid hq2
          have HY := Lib.hid hyk
          have HRY := Lib.hid (HM.out j y (by omega) hyk).1
          have HOY := Lib.hid (fun z : Later wr1 => refPlace_any y z.w)
          have HOX := Lib.hid (fun z : Later wr1 => refPlace_any x z.w)
          have hsub : ((k : Int) - 1) = (j : Int) := by omega
          have HJ := Lib.hid hjk
          clear hjk h0
          clear hq2 hyk hin2
          obtain ⟨c, hc⟩ : ∃ c, ltPl (plOf y.1) (plOf x.1) = c := ⟨_, rfl⟩
          have HG := Lib.hid (show (!Op.bytesLess (plS y.1) (plS x.1)) = !c by rw [plS_less HRY.out HRR.out, hc])
          have HC := Lib.hid hc
          clear hc
          cases c with
          | false =>
            try simp only [Act.put, List.setIfInBounds_toArray, List.set_cons_succ, List.set_cons_zero]
            refine Agg.wp_region_later_lit (by kernel_rfl) (by kernel_rfl) ?_
            repeat (first | go_big_quiet_skip | ((first | (with_reducible refine Agg.wpQuiet_loadL HQ.out.all rfl _ rfl rfl ?_) | (with_reducible refine Agg.wpQuiet_loadL HQ2.out.all rfl _ rfl rfl ?_) | (refine Agg.wpQuiet_geqS rfl rfl rfl rfl true HG.out ?_)); simp only [Act.put, List.setIfInBounds_toArray, List.set_cons_succ, List.set_cons_zero]) | go_big_quiet_step ((first | (go_at_call 45; exact Agg.Calls.later (HR.out _)) | (go_at_call 46; with_reducible exact Agg.Calls.later (HOY.out _)) | (go_at_call 46; with_reducible exact Agg.Calls.later (HOX.out _)))))
            refine wpQuiet_nil ?_
            intro _ hw'
            obtain ⟨x4, rfl⟩ := hw'
            go_wp2_with fail
            go_ret
            exact ⟨false, rfl, mapU_not HX.out (.inr ⟨j, y, HJ.out, HY.out, HC.out⟩), Agg.belowThen HW.out (Nat.le_refl _) x4.h⟩
          | true =>
            try simp only [Act.put, List.setIfInBounds_toArray, List.set_cons_succ, List.set_cons_zero]
            refine Agg.wp_region_later_lit (by kernel_rfl) (by kernel_rfl) ?_
            repeat (first | go_big_quiet_skip | ((first | (with_reducible refine Agg.wpQuiet_loadL HQ.out.all rfl _ rfl rfl ?_) | (with_reducible refine Agg.wpQuiet_loadL HQ2.out.all rfl _ rfl rfl ?_) | (refine Agg.wpQuiet_geqS rfl rfl rfl rfl false HG.out ?_)); simp only [Act.put, List.setIfInBounds_toArray, List.set_cons_succ, List.set_cons_zero]) | go_big_quiet_step ((first | (go_at_call 45; exact Agg.Calls.later (HR.out _)) | (go_at_call 46; with_reducible exact Agg.Calls.later (HOY.out _)) | (go_at_call 46; with_reducible exact Agg.Calls.later (HOX.out _)))))
            refine wpQuiet_nil ?_
            intro _ hw'
            obtain ⟨x4, rfl⟩ := hw'
            go_wp2_with fail
            go_roundw
            case rel => exact ⟨k + 1, by omega, by go_num, mapU_succ HM.out HX.out HRR.out (fun i z e hz => (by obtain rfl : j = i := (by have := HJ.out; omega); rw [HY.out] at hz; obtain rfl := Option.some.inj hz; exact HC.out)), Agg.belowThen HW.out (Nat.le_refl _) x4.h⟩
            case measure => simp [intOf]; omega
    · obtain rfl : k = l.length := by omega
      go_wp2_with fail
      go_ret
      exact ⟨true, rfl, ⟨fun _ => (mapU_all l).1 HM.out, fun _ => rfl⟩, HW.out⟩
end Go.Proofs.YtniibcgomnjfgaaGreat
/-! spenceref01.Number. -/
namespace Go.Proofs.YtniibcgomnjfgaaGreat
open Go.RowKit Pl Go.Agg
set_option maxRecDepth 100000 in
set_option maxHeartbeats 1000000 in
theorem refNumber_any (n : Nat) (w : World) (hn : n < 4398046511104) :
    Calls Tryz.prog 140 #[.int .i64 (n : Int)] w fun e w' => ∃ v, e = .returned v ∧ Own EB w.heap.size w' v (encN n) ∧ Below w.heap.size w w' := by
  go_enter Tryz.func140, Tryz.ntmps140
  go_wp2_with fail
  go_loopw [0, 3] (fun x out wr => ∃ k : Nat, x = .int .i64 (k : Int) ∧ k < 4398046511104 ∧ ∃ bs, Own EB w.heap.size wr out bs ∧ bs ++ encN k = encN n ∧ Below w.heap.size w wr) (fun x _ _ => (intOf x).toNat)
  case atStart => exact ⟨n, rfl, hn, [], Own.nil _ _ _, rfl, Below.refl _ _⟩
  case round =>
    obtain ⟨w1, rfl⟩ : ∃ w1 : World, w1 = wr := ⟨_, rfl⟩
    obtain ⟨k, rfl, hk, bs, ho, heq, hw⟩ := hrel
    have hbs : bs.length ≤ 6 := by
      have h1 := congrArg List.length heq
      have h2 := encN_len' 6 n (by omega) (by omega)
      simp only [List.length_append] at h1
      omega
    have h63 : bs.length + 1 ≤ 1099511627776 / 8 := by omega
    have hsz := hw.size
    have HO := Lib.hid ho
    have HEQ := Lib.hid heq
    have HW := Lib.hid hw
    clear ho heq hw
    by_cases hlt : 128 ≤ k
    · have hI : (128 : Int) ≤ (k : Int) := by omega
      obtain ⟨c, hc⟩ : ∃ c : UInt8, c.toNat = k % 128 + 128 := ⟨UInt8.ofNat (k % 128 + 128), by simp; omega⟩
      have hcc : (k : Int) % 128 + 128 = (c.toNat : Int) := by omega
      have HE : Hid (bs ++ [c] ++ encN (k / 128) = encN n) := Lib.hid (by
        have e : UInt8.ofNat (k % 128 + 128) = c := by rw [← hc]; simp
        rw [← HEQ.out, encN_ge hlt, e, List.append_assoc]; rfl)
      clear hlt hc
      go_wp2_with (first | (refine Agg.wpList_push (E := EB) (base := w.heap.size) rfl rfl 11 rfl _ rfl _ rfl (c) rfl (fun _ => rfl) (by simp) HO.out h63 (by decide) hsz ?_; intro u5 v5 w5 ho5 hp5; have HO5 := Lib.hid ho5; have HP5 := Lib.hid (HW.out.trans (hp5.below w.heap.size (Nat.le_refl _) hsz)); clear ho5 hp5))
      go_roundw
      case rel => exact ⟨k / 128, by go_num, by omega, _, HO5.out, HE.out, HP5.out⟩
      case measure => simp [intOf]; omega
    · obtain ⟨c, rfl⟩ : ∃ c : UInt8, k = c.toNat := ⟨UInt8.ofNat k, by simp; omega⟩
      have hI : ¬ (128 : Int) ≤ (c.toNat : Int) := by omega
      have HE : Hid (bs ++ [c] = encN n) := Lib.hid (by rw [← HEQ.out, encN_lt (by omega), UInt8.ofNat_toNat])
      clear hlt
      go_wp2_with (first | (refine Agg.wpList_push (E := EB) (base := w.heap.size) rfl rfl 18 rfl _ rfl _ rfl (c) rfl (fun _ => rfl) (by simp) HO.out h63 (by decide) hsz ?_; intro u5 v5 w5 ho5 hp5; have HO5 := Lib.hid ho5; have HP5 := Lib.hid (HW.out.trans (hp5.below w.heap.size (Nat.le_refl _) hsz)); clear ho5 hp5))
      go_ret
      exact ⟨_, rfl, by rw [← HE.out]; exact HO5.out, HP5.out⟩
end Go.Proofs.YtniibcgomnjfgaaGreat
/-! spenceref01.Maker: Num, Raw, Text, Done. -/
namespace Go.Agg
open Go.RowKit
theorem step_appendO {P : Program} {α : Type} {E : Elem P α} {base : Nat} {ops : Array Oper} {o : Oper} {a : Act} {w : World} {Q : Exit → Act → World → Prop} {v : Value} {l : List α} {K : Act → World → Prop} {F : Prop} (hg : o.guard = none) (s x : Operand) (ho : o.op = .call { callee := .builtin .append, args := #[s, x], argTypes := #[E.st, E.st] }) (vx : Value) (hs : a.eval s = v) (hx : a.eval x = vx) (m : List α)
    (hown : Own E base w v l) (hm : SliceOf E w vx m) (h63 : l.length + m.length ≤ 1099511627776 / 8) (hby : E.bytes ≤ 1000) (hbase : base ≤ w.heap.size)
    (h : ∀ v' w', Own E base w' v' (l ++ m) → Pushed E base w w' v → Grew w v v' → K (a.put o.dst v') w') : if Region.wanted o (yielded ops a.tmps) = true then o.wp P a w K Q else F := by
  obtain ⟨v', w', hrun, h2, h3, h4, _⟩ := run_append (ty := o.type) hown _ m hm h63 hby hbase
  exact step_val hg (v := v') (w' := w') (by simp [execOp, ho, resolve, invoke, builtin, hs, hx, hrun]) (h v' w' h2 (pushed_of hown h3) (grew_of (Nat.le_refl _) h4))
end Go.Agg
namespace Go.Proofs.YtniibcgomnjfgaaGreat
open Go.RowKit Pl Go.Agg
/-- the document's maker: its bytes so far -/
structure MrV (g : Nat) (w : World) (v : Value) (b : List UInt8) : Prop where
  blk : Blk w g 159 (mkC v)
  own : Own EB (g + 1) w v b
section
variable {g : Nat} {w w' : World} {v : Value} {b : List UInt8}
theorem MrV.load (h : MrV g w v b) : LoadsL Tryz.prog w 55 (some ⟨g, 0, none⟩) v :=
  h.blk.one (P := Tryz.prog) 0 rfl (by kernel_rfl : Tryz.prog.underlying 55 = some (.slice 5)) rfl
theorem MrV.bad (h : MrV g w v b) : LoadsL Tryz.prog w 4 (some ⟨g, 1, none⟩) (.bool false) :=
  h.blk.one (P := Tryz.prog) 1 rfl Tryz.underlying4 rfl
theorem MrV.below (h : MrV g w v b) (hb : Below w.heap.size w w') : MrV g w' v b := ⟨h.blk.below hb, h.own.below hb⟩
theorem MrV.ge (h : MrV g w v b) : ∀ k, v.ownBlock = some k → g ≤ k := fun k hk => by have := (h.own.block k hk).1; omega
theorem MrV.lt (h : MrV g w v b) : ∀ k, v.ownBlock = some k → k < w.heap.size := fun k hk => by
  obtain ⟨_, cur, hc⟩ := h.own.block k hk
  exact Agg.heap_lt hc
theorem MrV.put {w1 : World} {v1 : Value} {l : List UInt8} (h : MrV g w v b) (ho : Own EB (g + 1) w1 v1 l) (hp : Pushed EB (g + 1) w w1 v) (hgr : Grew w v v1) :
    ∃ w2, (Instr.storeAt 55 (.pointer (some ⟨g, 0, none⟩)) v1).run Tryz.prog w1 = .ok () w2 ∧ MrV g w2 v1 l ∧ MkStep g w w2 v v1 := by
  have h1 : Blk w1 g 159 (mkC v) := hp.blk g _ _ _ (by decide) h.blk
  obtain ⟨p, c, rfl⟩ := ho.slice.form
  refine ⟨_, h1.run_put 0 (by simp [mkC]) _ rfl rfl (by kernel_rfl), ⟨h1.set 0 _, ho.keep fun k cur t fr hk hb => ?_⟩, ⟨?_, hgr⟩⟩
  · rw [Below.heap_setCell _ _ _ _ (by show k ≠ g; omega)]; exact hb
  · refine (hp.only.mono fun _ _ h => .inr h).trans (T := fun k => k = g) ⟨rfl, rfl, rfl, by simp [World.setCell], fun k _ hk => Below.heap_setCell _ _ _ _ hk⟩ fun _ _ h => .inl h
theorem MrV.stepBelow {v1 : Value} (h : MrV g w v b) (hs : MkStep g w w' v v1) : Below g w w' := hs.below (Nat.le_of_lt h.blk.lt) h.ge
end
set_option maxRecDepth 100000 in
set_option maxHeartbeats 1000000 in
theorem rmNum_any (g : Nat) (v : Value) (n : Nat) (b : List UInt8) (w : World) (hn : n ≤ 1099511627776) (hb : b.length ≤ 16777216) (hm : MrV g w v b) :
    Calls Tryz.prog 110 #[.pointer (some ⟨g, 0, none⟩), .int .i64 (n : Int)] w fun e w' => (∃ r, e = .returned r) ∧ ∃ v', MrV g w' v' (b ++ encN n) ∧ MkStep g w w' v v' := by
  have hlo : ¬ (n : Int) < 0 := by omega
  have hhi : ¬ (1099511627776 : Int) < (n : Int) := by omega
  have HEN := Lib.hid (enters_of Tryz.func140 (by kernel_rfl) rfl : ∀ args w, (callFunc 140 args).run Tryz.prog w = .ok (.enter 140 args) w)
  have HD := Lib.hid ((Below.refl w.heap.size w).drew)
  have HM := Lib.hid hm
  have HLDa := Lib.hid (hm.below HD.out).load.now
  clear hm
  go_enter Tryz.func110, Tryz.ntmps110
  go_wp2_with fail
  try simp only [Act.put, List.setIfInBounds_toArray, List.set_cons_succ, List.set_cons_zero]
  refine wp_region_any (by kernel_rfl) ?_
  refine Agg.any_take 0 (.pointer (some ⟨g, 0, none⟩)) rfl (by kernel_rfl) (fun _ _ _ h => h) rfl (fun W => by kernel_rfl) ?_
  try simp only [Act.put, List.setIfInBounds_toArray, List.set_cons_succ, List.set_cons_zero]
  refine Agg.any_take 1 (.pointer (some ⟨g, 0, none⟩)) rfl (by kernel_rfl) (fun _ _ _ h => h) rfl (fun W => by kernel_rfl) ?_
  try simp only [Act.put, List.setIfInBounds_toArray, List.set_cons_succ, List.set_cons_zero]
  refine Agg.any_take 2 (.pointer (some ⟨g, 0, none⟩)) rfl (by kernel_rfl) (fun _ _ _ h => h) rfl (fun W => by kernel_rfl) ?_
  try simp only [Act.put, List.setIfInBounds_toArray, List.set_cons_succ, List.set_cons_zero]
  refine Agg.any_take 3 (.pointer (some ⟨g, 0, none⟩)) rfl (by kernel_rfl) (fun _ _ _ h => h) rfl (fun W => by kernel_rfl) ?_
  try simp only [Act.put, List.setIfInBounds_toArray, List.set_cons_succ, List.set_cons_zero]
  refine Agg.any_take 5 (.int .i64 (n : Int)) rfl (by kernel_rfl) (fun _ _ _ h => h) rfl (fun W => by kernel_rfl) ?_
  try simp only [Act.put, List.setIfInBounds_toArray, List.set_cons_succ, List.set_cons_zero]
  refine Agg.any_ready [4, 6] (by kernel_rfl) (by simp) ?_
  refine Agg.any_cons rfl ?_ ?_
  · refine Agg.step_load rfl 55 _ rfl _ v rfl HLDa.out ?_
    try simp only [Act.put, List.setIfInBounds_toArray, List.set_cons_succ, List.set_cons_zero]
    refine Agg.any_ready [6] (by kernel_rfl) (by simp) ?_
    refine Agg.any_cons rfl ?_ ?_
    · refine Agg.step_call rfl 140 _ _ rfl #[.int .i64 (n : Int)] (by simp only [List.map_toArray, List.map_cons, List.map_nil]; rfl) (fun W => HEN.out _ W) ?_
      refine (refNumber_any n _ (by omega)).mono ?_
      rintro e w2 ⟨u, rfl, hu, hx⟩
      have HX := Lib.hid (Agg.belowThen HD.out (Nat.le_refl _) hx)
      have HU := Lib.hid hu.slice
      have HM2 := Lib.hid (HM.out.below HX.out)
      have HLDb := Lib.hid HM2.out.load.now
      clear hu hx
      refine ⟨_, rfl, ?_⟩
      try simp only [Act.put, List.setIfInBounds_toArray, List.set_cons_succ, List.set_cons_zero]
      refine Agg.any_ready [7] (by kernel_rfl) (by simp) ?_
      refine Agg.any_cons rfl ?_ ?_
      · refine Agg.step_appendO (E := EB) (base := g + 1) rfl _ _ rfl u rfl rfl (encN n) HM2.out.own HU.out (by have := encN_len hn; omega) (by decide) HM2.out.blk.lt ?_
        intro v3 w3 ho3 hp3 hg3
        obtain ⟨w4, hrun, hmk, hst⟩ := MrV.put HM2.out ho3 hp3 hg3
        have HMK := Lib.hid hmk
        have HST := Lib.hid hst
        clear hmk hst ho3 hp3 hg3
        try simp only [Act.put, List.setIfInBounds_toArray, List.set_cons_succ, List.set_cons_zero]
        refine Agg.any_take 8 (.pointer (some ⟨g, 0, none⟩)) rfl (by kernel_rfl) (fun _ _ _ h => h) rfl (fun W => by kernel_rfl) ?_
        try simp only [Act.put, List.setIfInBounds_toArray, List.set_cons_succ, List.set_cons_zero]
        refine Agg.any_take 9 (.pointer (some ⟨g, 0, none⟩)) rfl (by kernel_rfl) (fun _ _ _ h => h) rfl (fun W => by kernel_rfl) ?_
        try simp only [Act.put, List.setIfInBounds_toArray, List.set_cons_succ, List.set_cons_zero]
        refine Agg.any_ready [10] (by kernel_rfl) (by simp) ?_
        refine Agg.any_cons rfl ?_ ?_
        · refine Agg.step_store rfl rfl 55 _ _ rfl (.pointer (some ⟨g, 0, none⟩)) _ rfl rfl hrun ?_
          clear hrun
          try simp only [Act.put, List.setIfInBounds_toArray, List.set_cons_succ, List.set_cons_zero]
          refine Agg.any_end (by kernel_rfl) ?_
          refine bodyPost_end (results_none rfl _ _ _) rfl ?_
          exact ⟨⟨_, rfl⟩, v3, HMK.out, (MkStep.of_below HX.out).trans HST.out⟩
        exact AllReady.nil
      exact AllReady.nil
    exact AllReady.nil
  refine Agg.any_cons rfl ?_ ?_
  · refine Agg.step_call rfl 140 _ _ rfl #[.int .i64 (n : Int)] (by simp only [List.map_toArray, List.map_cons, List.map_nil]; rfl) (fun W => HEN.out _ W) ?_
    refine (refNumber_any n _ (by omega)).mono ?_
    rintro e w2 ⟨u, rfl, hu, hx⟩
    have HX := Lib.hid (Agg.belowThen HD.out (Nat.le_refl _) hx)
    have HU := Lib.hid hu.slice
    have HM2 := Lib.hid (HM.out.below HX.out)
    have HLDb := Lib.hid HM2.out.load.now
    clear hu hx
    refine ⟨_, rfl, ?_⟩
    try simp only [Act.put, List.setIfInBounds_toArray, List.set_cons_succ, List.set_cons_zero]
    refine Agg.any_ready [4] (by kernel_rfl) (by simp) ?_
    refine Agg.any_cons rfl ?_ ?_
    · refine Agg.step_load rfl 55 _ rfl _ v rfl HLDb.out ?_
      try simp only [Act.put, List.setIfInBounds_toArray, List.set_cons_succ, List.set_cons_zero]
      refine Agg.any_ready [7] (by kernel_rfl) (by simp) ?_
      refine Agg.any_cons rfl ?_ ?_
      · refine Agg.step_appendO (E := EB) (base := g + 1) rfl _ _ rfl u rfl rfl (encN n) HM2.out.own HU.out (by have := encN_len hn; omega) (by decide) HM2.out.blk.lt ?_
        intro v3 w3 ho3 hp3 hg3
        obtain ⟨w4, hrun, hmk, hst⟩ := MrV.put HM2.out ho3 hp3 hg3
        have HMK := Lib.hid hmk
        have HST := Lib.hid hst
        clear hmk hst ho3 hp3 hg3
        try simp only [Act.put, List.setIfInBounds_toArray, List.set_cons_succ, List.set_cons_zero]
        refine Agg.any_take 8 (.pointer (some ⟨g, 0, none⟩)) rfl (by kernel_rfl) (fun _ _ _ h => h) rfl (fun W => by kernel_rfl) ?_
        try simp only [Act.put, List.setIfInBounds_toArray, List.set_cons_succ, List.set_cons_zero]
        refine Agg.any_take 9 (.pointer (some ⟨g, 0, none⟩)) rfl (by kernel_rfl) (fun _ _ _ h => h) rfl (fun W => by kernel_rfl) ?_
        try simp only [Act.put, List.setIfInBounds_toArray, List.set_cons_succ, List.set_cons_zero]
        refine Agg.any_ready [10] (by kernel_rfl) (by simp) ?_
        refine Agg.any_cons rfl ?_ ?_
        · refine Agg.step_store rfl rfl 55 _ _ rfl (.pointer (some ⟨g, 0, none⟩)) _ rfl rfl hrun ?_
          clear hrun
          try simp only [Act.put, List.setIfInBounds_toArray, List.set_cons_succ, List.set_cons_zero]
          refine Agg.any_end (by kernel_rfl) ?_
          refine bodyPost_end (results_none rfl _ _ _) rfl ?_
          exact ⟨⟨_, rfl⟩, v3, HMK.out, (MkStep.of_below HX.out).trans HST.out⟩
        exact AllReady.nil
      exact AllReady.nil
    exact AllReady.nil
  exact AllReady.nil
set_option maxRecDepth 100000 in
set_option maxHeartbeats 1000000 in
theorem rmRaw_any (g : Nat) (v x : Value) (l b : List UInt8) (w : World) (hb : b.length ≤ 16777216) (hl : l.length ≤ 16777216) (hx : SliceOf EB w x l) (hm : MrV g w v b) :
    Calls Tryz.prog 111 #[.pointer (some ⟨g, 0, none⟩), x] w fun e w' => (∃ r, e = .returned r) ∧ ∃ v', MrV g w' v' (b ++ l) ∧ MkStep g w w' v v' := by
  have HM := Lib.hid hm
  have HX := Lib.hid hx
  have HO := Lib.hid hm.own
  have h63 : b.length + l.length ≤ 1099511627776 / 8 := by omega
  have hbase : g + 1 ≤ w.heap.size := hm.blk.lt
  clear hm hx
  go_enter Tryz.func111, Tryz.ntmps111
  go_wp2_with (first | (with_reducible refine Agg.wpList_loadL HM.out.load rfl _ rfl rfl ?_) | (refine Agg.wpList_appendO (E := EB) (base := g + 1) rfl _ _ rfl x rfl rfl l HO.out HX.out h63 (by decide) hbase ?_; intro v1 w2 ho1 hp1 hgr1; obtain ⟨w3, hrun, hmk, hst⟩ := MrV.put HM.out ho1 hp1 hgr1; have HMK := Lib.hid hmk; have HST := Lib.hid hst; clear ho1 hp1 hgr1 hmk hst) | (refine Agg.wpList_store rfl rfl 55 _ _ rfl (.pointer (some ⟨g, 0, none⟩)) _ rfl rfl hrun ?_))
  refine bodyPost_end (results_none rfl _ _ _) rfl ?_
  exact ⟨⟨_, rfl⟩, v1, HMK.out, HST.out⟩
set_option maxRecDepth 100000 in
set_option maxHeartbeats 1000000 in
theorem rmText_any (g : Nat) (v x : Value) (l b : List UInt8) (w : World) (hb : b.length ≤ 4194304) (hl : l.length ≤ 1048576) (hx : Off EB g w v x l) (hm : MrV g w v b) :
    Calls Tryz.prog 139 #[.pointer (some ⟨g, 0, none⟩), x] w fun e w' => (∃ r, e = .returned r) ∧ ∃ v', MrV g w' v' (b ++ (encN l.length ++ l)) ∧ MkStep g w w' v v' := by
  have HM := Lib.hid hm
  have HX := Lib.hid hx
  have hlx := fun W => bytes_len hx.slice W
  have hhi : ¬ (1048576 : Int) < (l.length : Int) := by omega
  have hen := encN_len (n := l.length) (by omega)
  clear hm hx
  go_enter Tryz.func139, Tryz.ntmps139
  go_wp2_with fail
  refine (rmNum_any g v l.length b _ (by omega) (by omega) HM.out).mono ?_
  rintro e w1 ⟨⟨r, rfl⟩, v1, hm1, hs1⟩
  have HM1 := Lib.hid hm1
  have HS1 := Lib.hid hs1
  have HX1 := Lib.hid (HX.out.step hs1)
  clear hm1 hs1
  go_wp2_with fail
  refine (rmRaw_any g v1 x l (b ++ encN l.length) _ (by simp only [List.length_append]; omega) (by omega) HX1.out.slice HM1.out).mono ?_
  rintro e w2 ⟨⟨r2, rfl⟩, v2, hm2, hs2⟩
  have HM2 := Lib.hid hm2
  have HS2 := Lib.hid (HS1.out.trans hs2)
  clear hm2 hs2
  go_wp2_with fail
  refine bodyPost_end (results_none rfl _ _ _) rfl ?_
  exact ⟨⟨_, rfl⟩, v2, by rw [← List.append_assoc]; exact HM2.out, HS2.out⟩
set_option maxRecDepth 100000 in
set_option maxHeartbeats 1000000 in
theorem rmDone_any (g : Nat) (v : Value) (b : List UInt8) (w : World) (hb : b.length ≤ 33554432) (hm : MrV g w v b) :
    Calls Tryz.prog 112 #[.pointer (some ⟨g, 0, none⟩)] w fun e w' => ∃ v', e = .returned (.tuple #[v', .int .i64 0]) ∧ Own EB w.heap.size w' v' b ∧ Below w.heap.size w w' := by
  have HM := Lib.hid hm
  clear hm
  go_enter Tryz.func112, Tryz.ntmps112
  go_wp2_with (first | (with_reducible refine Agg.wpList_loadL HM.out.bad rfl _ rfl rfl ?_) | (refine Agg.wpList_slice0 (base := w.heap.size) EB rfl rfl (Nat.le_refl _) ?_; intro v0 w1 ho1 hx1 hne1; have HO1 := Lib.hid ho1; have HX1 := Lib.hid hx1; have HM1 := Lib.hid (HM.out.below hx1); have hsz1 := hx1.size; clear ho1 hx1 hne1) | (with_reducible refine Agg.wpList_loadL HM1.out.load rfl _ rfl rfl ?_) | (refine Agg.wpList_appendS (E := EB) (base := w.heap.size) rfl _ _ rfl v rfl rfl b HO1.out HM1.out.own.slice (by simp; omega) (by decide) hsz1 ?_; intro v2 w2 ho2 hp2 hne2; have HO2 := Lib.hid ho2; have HX2 := Lib.hid (HX1.out.trans (hp2.below w.heap.size (Nat.le_refl _) hsz1)); clear ho2 hp2 hne2))
  go_ret2
  exact ⟨_, rfl, by simpa using HO2.out, HX2.out⟩
end Go.Proofs.YtniibcgomnjfgaaGreat
/-! spenceref22.path -/
namespace Go.Proofs.YtniibcgomnjfgaaGreat
open Go.RowKit Pl Go.Agg
theorem md_atc {w : World} {v : Value} {l : List Md} (h : MdsAt w v l) (k : Nat) (x : Md) (hk : l[k]? = some x) :
    ∃ q : Addr, (∀ W, (Instr.indexAt 27 v (.int .i64 (k : Int))).run Tryz.prog W = .ok (.pointer (some q)) W) ∧ MdL w q x ∧ SliceOf EB w (.slice (some (q.add 0)) 20 20) x.1.1 := by
  obtain ⟨p, h1, h2, h3, _⟩ := h.at_ k x hk
  refine ⟨p, h1, MdL.of_cells h2 h3, .inr ⟨_, 20, by rw [x.1.2], by rw [add_block]; exact h2, fun j v hj => ?_⟩⟩
  rw [add_add]
  refine h3 _ _ (mC_cl x j v ?_)
  rw [flat_bytes] at hj
  simpa [hC] using hj
theorem pathB_len {p : P20} {n : Nat} (h : p.1.2.length ≤ n) (hn : n < 128) : (pathB p).length ≤ 21 + n := by
  have h2 : (encN p.1.2.length).length = 1 := by rw [encN_lt (by omega)]; rfl
  simp only [pathB, List.length_append, p.2, h2]
  omega
set_option maxRecDepth 100000 in
set_option maxHeartbeats 4000000 in
theorem refPathB_any (g : Nat) (v : Value) (b : List UInt8) (p : P20) (hpn : p.1.2.length ≤ 24) (hb : b.length ≤ 100000) (w : World) (hm : MrV g w v b) :
    Calls Tryz.prog 109 #[.pointer (some ⟨g, 0, none⟩), .agg (pC p.1.1 p.1.2)] w fun e w' => (∃ r, e = .returned r) ∧ ∃ v', MrV g w' v' (b ++ pathB p) ∧ MkStep g w w' v v' := by
  have HMM := Lib.hid hm
  clear hm
  go_enter Tryz.func109, Tryz.ntmps109
  go_wp2_with (first | (with_reducible refine wpList_box rfl 26 _ rfl (pC p.1.1 p.1.2) rfl ?_; intro b3 w3 hb3 hx3 hg3; have HB3 := Lib.hid hb3; have HX3 := Lib.hid hx3; have HG3 := Lib.hid hg3; have HM3 := Lib.hid (HMM.out.below hx3); clear hb3 hx3 hg3))
  have HNG := Lib.hid (show b3 ≠ g ∧ v.ownBlock ≠ some b3 from ⟨fun e => (by have := HMM.out.blk.lt; have := HG3.out; omega), fun e => (by have := HMM.out.lt b3 e; have := HG3.out; omega)⟩)
  refine (rmRaw_any g v _ p.1.1 b w3 (by omega) (by rw [p.2]; omega) (path_slice HB3.out p.2) HM3.out).mono ?_
  rintro e w4 ⟨⟨r, rfl⟩, v4, hm4, hs4⟩
  have HM4 := Lib.hid hm4
  have HK4 := Lib.hid ((MkStep.of_below (g := g) (v := v) HX3.out).trans hs4)
  have HB4 := Lib.hid (HB3.out.onlyP hs4.only (fun h => h.elim HNG.out.1 HNG.out.2))
  have HNM4 := Lib.hid (HB4.out.one (P := Tryz.prog) (ty := 9) 20 (pC_name p.1.1 p.1.2 p.2) Tryz.underlying9 rfl)
  clear hm4 hs4
  go_wp2_with (first | (with_reducible refine wpList_loadL HNM4.out rfl _ rfl rfl ?_) | (refine wpList_toBytes p.1.2 _ rfl (by kernel_rfl) rfl ?_; intro v5 w5 hn hx5; have HV5 := Lib.hid (Off.behind (w0 := w4) hn.slice (fun k hk => newBytes_ownB hn k hk) HM4.out.blk.lt HM4.out.lt); have HM5 := Lib.hid (HM4.out.below hx5); have HK5 := Lib.hid (HK4.out.trans (MkStep.of_below hx5)); clear hn hx5))
  refine (rmText_any g v4 v5 p.1.2 (b ++ p.1.1) w5 (by simp only [List.length_append, p.2]; omega) (by omega) HV5.out HM5.out).mono ?_
  rintro e w6 ⟨⟨r6, rfl⟩, v6, hm6, hs6⟩
  have HM6 := Lib.hid hm6
  have HK6 := Lib.hid (HK5.out.trans hs6)
  clear hm6 hs6
  go_wp2_with fail
  refine bodyPost_end (results_none rfl _ _ _) rfl ?_
  exact ⟨⟨_, rfl⟩, v6, by rw [pathB, ← List.append_assoc]; exact HM6.out, HK6.out⟩
end Go.Proofs.YtniibcgomnjfgaaGreat
