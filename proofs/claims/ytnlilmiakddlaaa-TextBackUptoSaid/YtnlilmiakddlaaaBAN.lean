/- text.reader: the lines of inputs. -/
import Derived.Test.YtnlilmiakddlaaaBAM
namespace Go.Proofs.Ytnlilmiakddlaaa
open Go.RowKit Pl Go.Agg
/-- what a line leaves -/
def RdOut (B g : Nat) (w : World) (r : Option TgS) (e : Ending) (w' : World) : Prop :=
  Below B w w' ∧ RSt g w w' ∧ match r with
    | some st => e = .returned (.tuple #[]) ∧ RdV B g w' st.d st.ended
    | none => e = .panicked noneCh
theorem cut1_len (c : UInt8) (s : List UInt8) : (cut1 c s).1.length ≤ s.length ∧ (cut1 c s).2.1.length ≤ s.length := by
  cases h : (cut1 c s).2.2 with
  | true =>
    have := congrArg List.length (cut1_yes c s h).1
    simp at this
    omega
  | false =>
    have h2 := cut1_no c s h
    rw [h2.2.1, h2.2.2]
    simp
theorem tgStep_src {d : Drv} {rest : List UInt8} {q : List UInt8 × List UInt8} (hp : parse (cut1 32 rest).2.1 = some q) (hq : q.1.length = 20) :
    tgStep ⟨d, false, false⟩ [115, 114, 99] rest = some ⟨(d.1, d.2.1 ++ [((cut1 32 rest).1, (⟨q, hq⟩, zH, false))], d.2.2), false, false⟩ := by
  simp only [tgStep, Bool.false_eq_true, if_false, if_true]
  split
  · next q' h => rw [hp] at h; cases h; rfl
  · next h => rw [hp] at h; cases h
theorem tgStep_srcN {d : Drv} {rest : List UInt8} (hp : parse (cut1 32 rest).2.1 = none) : tgStep ⟨d, false, false⟩ [115, 114, 99] rest = none := by
  simp only [tgStep, Bool.false_eq_true, if_false, if_true]
  split
  · next q' h => rw [hp] at h; cases h
  · rfl
theorem tgStep_cls {d : Drv} {rest : List UInt8} {q : List UInt8} (hp : Pl.hash (cut1 32 rest).2.1 = some q) (hq : q.length = 20) :
    tgStep ⟨d, false, false⟩ [99, 108, 97, 115, 115] rest = some ⟨(d.1, d.2.1 ++ [((cut1 32 rest).1, (zP, ⟨q, hq⟩, true))], d.2.2), false, false⟩ := by
  simp only [tgStep, Bool.false_eq_true, if_false, if_neg ne_cls, if_true]
  split
  · next q' h => rw [hp] at h; cases h; rfl
  · next h => rw [hp] at h; cases h
theorem tgStep_clsN {d : Drv} {rest : List UInt8} (hp : Pl.hash (cut1 32 rest).2.1 = none) : tgStep ⟨d, false, false⟩ [99, 108, 97, 115, 115] rest = none := by
  simp only [tgStep, Bool.false_eq_true, if_false, if_neg ne_cls, if_true]
  split
  · next q' h => rw [hp] at h; cases h
  · rfl
theorem hC_zeroT : (Try.prog.info? 38).map (·.zero) = some (some (.agg (hC z20))) := by kernel_rfl
theorem hC_underT : Try.prog.underlying 38 = some (.array 20 5) := by kernel_rfl
theorem exec_srcB {o : Oper} {a : Act} {w : World} {x : Operand} {h n : List UInt8} (hq : h.length = 20) (ho : o.op = .build 42 #[(0, x)]) (hx : a.eval x = .agg (pC h n)) : (execOp a.eval o).run Try.prog w = .ok (.value (.agg (iC (⟨(h, n), hq⟩, zH, false)))) w :=
  exec_build1D ho hx (build_src ⟨(h, n), hq⟩ w)
theorem exec_clsB {o : Oper} {a : Act} {w : World} {x y : Operand} {h : List UInt8} (hq : h.length = 20) (ho : o.op = .build 42 #[(1, x), (2, y)]) (hx : a.eval x = .agg (hC h)) (hy : a.eval y = .bool true) : (execOp a.eval o).run Try.prog w = .ok (.value (.agg (iC (zP, ⟨h, hq⟩, true)))) w :=
  exec_build2D ho hx hy (build_cls ⟨h, hq⟩ w)
set_option maxRecDepth 100000 in
set_option maxHeartbeats 8000000 in
theorem rsrc_any (B g : Nat) (rest : List UInt8) (d : Drv) (hr : rest.length ≤ 1048576) (hl : d.2.1.length ≤ 1048576) (m : Int) (w : World) (hm : w.cell? ⟨0, 0, none⟩ = some (.int .i64 m)) (hB : B ≤ w.heap.size) (h : RdV B g w d false) :
    Calls Try.prog 34 #[.pointer (some ⟨g, 0, none⟩), .string ⟨rest.toArray⟩] w fun e w' => RdOut B g w (tgStep ⟨d, false, false⟩ [115, 114, 99] rest) e w' := by
  have hlen := (cut1_len 32 rest).2
  have hcut := cut_any rest 32 (by omega) m w hm
  obtain ⟨nm, hnm⟩ : ∃ l, (cut1 32 rest).1 = l := ⟨_, rfl⟩
  obtain ⟨sp, hsp⟩ : ∃ l, (cut1 32 rest).2.1 = l := ⟨_, rfl⟩
  obtain ⟨i1, hi1⟩ : ∃ b, (cut1 32 rest).2.2 = b := ⟨_, rfl⟩
  rw [hnm, hsp, hi1] at hcut
  rw [hsp] at hlen
  have HC := Lib.hid hcut
  have HN := Lib.hid hnm
  have HS := Lib.hid hsp
  have H0 := Lib.hid h
  have HM := Lib.hid hm
  clear hcut hnm hsp hi1 h hm
  go_enter Try.func34, Try.ntmps34
  go_wp2_with fail
  refine HC.out.mono ?_
  rintro e w1 ⟨rfl, hx⟩
  have HX1 := Lib.hid hx
  have HM1 := Lib.hid ((hx.cell (block_lt_of_cell HM.out)).trans HM.out)
  have H1 := Lib.hid (H0.out.below hx)
  clear hx HC
  go_wp2_with fail
  have hpa := parse_any sp (by omega) m w1 HM1.out
  cases hp : parse sp with
  | none =>
    have hpe : parseE sp = 4 := by simp [parseE, hp]
    have hph : parseH sp = z20 := by simp [parseH, hp]
    rw [hpe, hph] at hpa
    obtain ⟨pn, hpn⟩ : ∃ l, parseN sp = l := ⟨_, rfl⟩
    rw [hpn] at hpa
    have HT := Lib.hid (tgStep_srcN (d := d) (rest := rest) (by rw [HS.out]; exact hp))
    have HP := Lib.hid hpa
    clear hpa hpe hph hp hpn
    refine HP.out.mono ?_
    rintro e w2 ⟨rfl, hx⟩
    have HX2 := Lib.hid (Agg.belowThen HX1.out (Nat.le_refl _) hx)
    clear hx HP
    go_wp2_with (first | (with_reducible refine Agg.wpList_new rfl rfl rfl 40 7 18 rfl rfl rfl (by decide) (pC z20 []) (pC z20 pn) pC_zero (by simp [pC_size]) (pC_info _ _ rfl) (pC_one _ _) rfl (by first | (simp; done) | simp [Act.put]) ?_; intro g7 w3 hb hx hg; have HX3 := Lib.hid (Agg.belowThen HX2.out (Nat.le_refl _) hx); clear hb hx hg))
    refine (must_no w3).mono ?_
    rintro e w4 ⟨rfl, rfl⟩
    go_wp2_with fail
    refine ⟨rfl, HX3.out.mono hB, RStep.below HX3.out, ?_⟩
    rw [HT.out]
  | some q =>
    have hq := (parse_some (h := q.1) (n := q.2) hp).2.1
    have hpe : parseE sp = 0 := by simp [parseE, hp]
    have hph : parseH sp = q.1 := by simp [parseH, hp]
    have hpn : parseN sp = q.2 := by simp [parseN, hp]
    rw [hpe, hph, hpn] at hpa
    have hsz : (pC z20 []).size = (pC q.1 q.2).size := by rw [pC_size, pC_size, hq]; rfl
    have HT := Lib.hid (tgStep_src (d := d) (rest := rest) (by rw [HS.out]; exact hp) hq)
    have HP := Lib.hid hpa
    clear hpa hpe hph hp hpn
    refine HP.out.mono ?_
    rintro e w2 ⟨rfl, hx⟩
    have HX2 := Lib.hid (Agg.belowThen HX1.out (Nat.le_refl _) hx)
    have H2 := Lib.hid (H1.out.below hx)
    clear hx HP H1
    go_wp2_with (first | (with_reducible refine Agg.wpList_new rfl rfl rfl 40 7 18 rfl rfl rfl (by decide) (pC z20 []) (pC q.1 q.2) pC_zero hsz (pC_info _ _ hq) (pC_one _ _) rfl (by first | (simp; done) | simp [Act.put]) ?_; intro g7 w3 hb hx hg; have HB3 := Lib.hid hb; have HX3 := Lib.hid (Agg.belowThen HX2.out (Nat.le_refl _) hx); have H3 := Lib.hid (H2.out.below hx); clear hb hx hg))
    refine (must_yes w3).mono ?_
    rintro e w4 ⟨rfl, rfl⟩
    go_wp2_with (first | (with_reducible refine Agg.wpList_loadL (HB3.out.loads pC_under rfl (pC_info _ _ hq)) rfl _ rfl rfl ?_) | (with_reducible refine Agg.wpList_valw rfl (exec_srcB (n := q.2) hq rfl rfl) ?_))
    refine (rinput_any B g nm (⟨q, hq⟩, zH, false) d false hl w4 (Nat.le_trans hB HX3.out.size) H3.out).mono ?_
    rintro e w5 ⟨rfl, hv, hx, hr5⟩
    have HV := Lib.hid hv
    have HX5 := Lib.hid hx
    have HR5 := Lib.hid hr5
    clear hv hx hr5
    go_wp2_with fail
    go_end0
    refine ⟨(HX3.out.mono hB).trans HX5.out, (RStep.below HX3.out).trans HR5.out, ?_⟩
    rw [HT.out]
    exact ⟨rfl, by rw [HN.out]; exact HV.out⟩
set_option maxRecDepth 100000 in
set_option maxHeartbeats 8000000 in
theorem rcls_any (B g : Nat) (rest : List UInt8) (d : Drv) (hr : rest.length ≤ 1048576) (hl : d.2.1.length ≤ 1048576) (m : Int) (w : World) (hm : w.cell? ⟨0, 0, none⟩ = some (.int .i64 m)) (hB : B ≤ w.heap.size) (h : RdV B g w d false) :
    Calls Try.prog 35 #[.pointer (some ⟨g, 0, none⟩), .string ⟨rest.toArray⟩] w fun e w' => RdOut B g w (tgStep ⟨d, false, false⟩ [99, 108, 97, 115, 115] rest) e w' := by
  have hlen := (cut1_len 32 rest).2
  have hcut := cut_any rest 32 (by omega) m w hm
  obtain ⟨nm, hnm⟩ : ∃ l, (cut1 32 rest).1 = l := ⟨_, rfl⟩
  obtain ⟨sp, hsp⟩ : ∃ l, (cut1 32 rest).2.1 = l := ⟨_, rfl⟩
  obtain ⟨i1, hi1⟩ : ∃ b, (cut1 32 rest).2.2 = b := ⟨_, rfl⟩
  rw [hnm, hsp, hi1] at hcut
  rw [hsp] at hlen
  have HC := Lib.hid hcut
  have HN := Lib.hid hnm
  have HS := Lib.hid hsp
  have H0 := Lib.hid h
  have HM := Lib.hid hm
  clear hcut hnm hsp hi1 h hm
  go_enter Try.func35, Try.ntmps35
  go_wp2_with fail
  refine HC.out.mono ?_
  rintro e w1 ⟨rfl, hx⟩
  have HX1 := Lib.hid hx
  have HM1 := Lib.hid ((hx.cell (block_lt_of_cell HM.out)).trans HM.out)
  have H1 := Lib.hid (H0.out.below hx)
  clear hx HC
  go_wp2_with fail
  have hpa := hash_any sp w1
  cases hp : Pl.hash sp with
  | none =>
    have hpe : hashE sp = 4 := by simp [hashE, hp]
    have hph : hashH sp = z20 := by simp [hashH, hp]
    rw [hpe, hph] at hpa
    have HT := Lib.hid (tgStep_clsN (d := d) (rest := rest) (by rw [HS.out]; exact hp))
    have HP := Lib.hid hpa
    clear hpa hpe hph hp
    refine HP.out.mono ?_
    rintro e w2 ⟨rfl, hx⟩
    have HX2 := Lib.hid (Agg.belowThen HX1.out (Nat.le_refl _) hx)
    clear hx HP
    go_wp2_with (first | (with_reducible refine Agg.wpList_new rfl rfl rfl 38 7 18 rfl rfl rfl (by decide) (hC z20) (hC z20) hC_zeroT rfl (hC_info _ rfl) (hC_one _) rfl (by first | (simp; done) | simp [Act.put]) ?_; intro g7 w3 hb hx hg; have HX3 := Lib.hid (Agg.belowThen HX2.out (Nat.le_refl _) hx); clear hb hx hg))
    refine (must_no w3).mono ?_
    rintro e w4 ⟨rfl, rfl⟩
    go_wp2_with fail
    refine ⟨rfl, HX3.out.mono hB, RStep.below HX3.out, ?_⟩
    rw [HT.out]
  | some q =>
    have hq : q.length = 20 := hash_length hp
    have hpe : hashE sp = 0 := by simp [hashE, hp]
    have hph : hashH sp = q := by simp [hashH, hp]
    rw [hpe, hph] at hpa
    have hsz : (hC z20).size = (hC q).size := by rw [hC_size, hC_size, hq]; rfl
    have HT := Lib.hid (tgStep_cls (d := d) (rest := rest) (by rw [HS.out]; exact hp) hq)
    have HP := Lib.hid hpa
    clear hpa hpe hph hp
    refine HP.out.mono ?_
    rintro e w2 ⟨rfl, hx⟩
    have HX2 := Lib.hid (Agg.belowThen HX1.out (Nat.le_refl _) hx)
    have H2 := Lib.hid (H1.out.below hx)
    clear hx HP H1
    go_wp2_with (first | (with_reducible refine Agg.wpList_new rfl rfl rfl 38 7 18 rfl rfl rfl (by decide) (hC z20) (hC q) hC_zeroT hsz (hC_info _ hq) (hC_one _) rfl (by first | (simp; done) | simp [Act.put]) ?_; intro g7 w3 hb hx hg; have HB3 := Lib.hid hb; have HX3 := Lib.hid (Agg.belowThen HX2.out (Nat.le_refl _) hx); have H3 := Lib.hid (H2.out.below hx); clear hb hx hg))
    refine (must_yes w3).mono ?_
    rintro e w4 ⟨rfl, rfl⟩
    go_wp2_with (first | (with_reducible refine Agg.wpList_loadL (HB3.out.loads hC_underT rfl (hC_info _ hq)) rfl _ rfl rfl ?_) | (with_reducible refine Agg.wpList_valw rfl (exec_clsB hq rfl rfl rfl) ?_))
    refine (rinput_any B g nm (zP, ⟨q, hq⟩, true) d false hl w4 (Nat.le_trans hB HX3.out.size) H3.out).mono ?_
    rintro e w5 ⟨rfl, hv, hx, hr5⟩
    have HV := Lib.hid hv
    have HX5 := Lib.hid hx
    have HR5 := Lib.hid hr5
    clear hv hx hr5
    go_wp2_with fail
    go_end0
    refine ⟨(HX3.out.mono hB).trans HX5.out, (RStep.below HX3.out).trans HR5.out, ?_⟩
    rw [HT.out]
    exact ⟨rfl, by rw [HN.out]; exact HV.out⟩
end Go.Proofs.Ytnlilmiakddlaaa
