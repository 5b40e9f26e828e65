/- real.Put of the example. (Several texts in one.) -/
import Derived.Test.YtniibcgomnjfgaaGreatVAU
import Derived.Test.YtniibcgomnjfgaaGreatVAF
import Derived.Test.YtniibcgomnjfgaaGreatVAR
import Derived.Test.YtniibcgomnjfgaaGreatVAP
/-! real.path: a path put by a maker. -/
namespace Go.Agg
open Go.RowKit
theorem exec_loadB {P : Program} {o : Oper} {a : Act} {w : World} {ty : TypeId} {x : Operand} {p v : Value} (ho : o.op = .load ty x) (hx : a.eval x = p) (hrun : (Instr.loadAt ty p).run P w = .ok v w) : (execOp a.eval o).run P w = .ok (.value v) w := by simp [execOp, ho, hx, hrun]
theorem Blk.onlyP {w w' : World} {S : Nat → Prop} {g : Nat} {t : TypeId} {cs : Array Value} (h : Blk w g t cs) (ho : Only S w w') (hS : ¬ S g) : Blk w' g t cs := (ho.block g h.lt hS).trans h
end Go.Agg
namespace Go.Proofs.YtniibcgomnjfgaaGreat
open Go.RowKit Pl Go.Agg
theorem newBytes_ownB {w w' : World} {v : Value} {s : List UInt8} (h : NewBytes w w' v s) : ∀ k, v.ownBlock = some k → w.heap.size ≤ k := by
  obtain ⟨cap, fr, rfl, _⟩ := h
  intro k hk
  simp only [Value.ownBlock, Option.some.injEq] at hk
  omega
theorem bytes_svB {w : World} {v : Value} {l : List UInt8} (h : BytesAt w v l) : ∃ s : SV, v = s.1 := by
  obtain ⟨p, c, hf⟩ := h.form
  exact ⟨⟨v, p, _, c, hf⟩, rfl⟩
theorem step_toBytes {ops : Array Oper} {o : Oper} {a : Act} {w : World} {Q : Exit → Act → World → Prop} {K : Act → World → Prop} {F : Prop} (hg : o.guard = none) (x : Operand) (ho : o.op = .convert 9 55 x) (s : List UInt8) (hx : a.eval x = .string ⟨s.toArray⟩)
    (h : ∀ v' w', NewBytes w w' v' s → Below w.heap.size w w' → K (a.put o.dst v') w') : if Region.wanted o (yielded ops a.tmps) = true then o.wp Tryz.prog a w K Q else F := by
  obtain ⟨v', w', hr, h1, h2⟩ := run_toBytes w s
  exact step_val hg (v := v') (w' := w') (by simp [execOp, ho, hx, hr]) (h v' w' h1 h2)
theorem path_slice {w : World} {b : Nat} {ph pn : List UInt8} (h : Blk w b 26 (pC ph pn)) (hl : ph.length = 20) : SliceOf EB w (.slice (some ⟨b, 0, none⟩) 20 20) ph := by
  refine .inr ⟨_, 20, by rw [hl], h.lt, fun j v hj => ?_⟩
  rw [add_plain, h.cell]
  refine pC_hash ph pn j v ?_
  rw [flat_bytes] at hj
  simpa [hC] using hj
set_option maxRecDepth 100000 in
set_option maxHeartbeats 8000000 in
theorem path22_any (g : Nat) (v : Value) (b ph pn : List UInt8) (hl : ph.length = 20) (hpn : pn.length ≤ 1000) (hb : b.length ≤ 1000) (w : World) (hm : MkV g w v b) :
    Calls Tryz.prog 58 #[.pointer (some ⟨g, 0, none⟩), .agg (pC ph pn)] w fun e w' => (∃ r, e = .returned r) ∧ ∃ v', MkV g w' v' ((b ++ ph) ++ (encN pn.length ++ pn)) ∧ MkStep g w w' v v' := by
  have HER := Lib.hid (enters_of Tryz.func60 (by kernel_rfl) rfl : ∀ args w, (callFunc 60 args).run Tryz.prog w = .ok (.enter 60 args) w)
  have HET := Lib.hid (enters_of Tryz.func100 (by kernel_rfl) rfl : ∀ args w, (callFunc 100 args).run Tryz.prog w = .ok (.enter 100 args) w)
  have HMM := Lib.hid hm
  clear hm
  go_enter Tryz.func58, Tryz.ntmps58
  go_wp2_with (first | (with_reducible refine wpList_box rfl 26 _ rfl (pC ph pn) rfl ?_; intro b3 w3 hb3 hx3 hg3; have HB3 := Lib.hid hb3; have HX3w := Lib.hid hx3; have HG3 := Lib.hid hg3; clear hb3 hx3 hg3))
  try simp only [Act.put, List.setIfInBounds_toArray, List.set_cons_succ, List.set_cons_zero]
  obtain ⟨w0, hw0⟩ : ∃ W, W = w3.drew := ⟨_, rfl⟩
  have hd : Below w3.heap.size w3 w0 := by rw [hw0]; exact (Below.refl _ _).drew
  have HS0 := Lib.hid (HB3.out.below hd)
  have hx0 := Agg.belowThen HX3w.out (Nat.le_refl _) hd
  have HX3 := Lib.hid (MkStep.of_below (g := g) (v := v) hx0)
  have HM0 := Lib.hid (HMM.out.below hx0)
  have HK0 := Lib.hid (MkStep.refl g w0 v)
  have HNG := Lib.hid (show b3 ≠ g ∧ v.ownBlock ≠ some b3 from ⟨fun e => (by have := HMM.out.blk.lt; have := HG3.out; omega), fun e => (by have := HMM.out.lt b3 e; have := HG3.out; omega)⟩)
  refine wp_region_held_drew (S := fun W => Blk W b3 26 (pC ph pn)) (by kernel_rfl) (by rw [← hw0]; exact HS0.out) (fun hHeld => ?_)
  rw [← hw0] at hHeld ⊢
  clear hw0 hd hx0
  refine Agg.held_take 0 (.pointer (some ⟨g, 0, none⟩)) rfl (by kernel_rfl) (fun _ _ _ h => h) rfl (fun W _ => by kernel_rfl) (by assumption) ?_
  try simp only [Act.put, List.setIfInBounds_toArray, List.set_cons_succ, List.set_cons_zero]
  refine Agg.held_take 1 (.pointer (some ⟨b3, 0, none⟩)) rfl (by kernel_rfl) (fun _ _ _ h => h) rfl (fun W _ => by kernel_rfl) (by assumption) ?_
  try simp only [Act.put, List.setIfInBounds_toArray, List.set_cons_succ, List.set_cons_zero]
  refine Agg.held_take 2 (.slice (some ⟨b3, 0, none⟩) 20 20) rfl (by kernel_rfl) (fun _ _ _ h => h) rfl (fun W _ => by kernel_rfl) (by assumption) ?_
  try simp only [Act.put, List.setIfInBounds_toArray, List.set_cons_succ, List.set_cons_zero]
  refine Agg.held_take 4 (.pointer (some ⟨b3, 20, none⟩)) rfl (by kernel_rfl) (fun _ _ _ h => h) rfl (fun W _ => by kernel_rfl) (by assumption) ?_
  try simp only [Act.put, List.setIfInBounds_toArray, List.set_cons_succ, List.set_cons_zero]
  refine Agg.held_take 5 (.string ⟨pn.toArray⟩) rfl (by kernel_rfl) (fun _ _ _ h => h) rfl (fun W hS => exec_loadB rfl rfl (hS.one (ty := 9) 20 (pC_name ph pn hl) Tryz.underlying9 rfl).now) (by assumption) ?_
  try simp only [Act.put, List.setIfInBounds_toArray, List.set_cons_succ, List.set_cons_zero]
  refine Agg.held_ready [3, 6] (by kernel_rfl) (by simp) ?_
  refine Agg.held_cons rfl ?_ ?_
  · refine Agg.step_call rfl 60 _ _ rfl #[.pointer (some ⟨g, 0, none⟩), .slice (some ⟨b3, 0, none⟩) 20 20] (by simp only [List.map_toArray, List.map_cons, List.map_nil]; rfl) (fun W => HER.out _ W) ?_
    refine (raw_any g v _ ph b _ (by omega) (by omega) (path_slice HS0.out hl) HM0.out).mono ?_
    rintro x w_3 ⟨rfl, va, hm, hs⟩
    have HM_3 := Lib.hid hm
    have HK_3 := Lib.hid (HK0.out.trans hs)
    have HS_3 := Lib.hid (HS0.out.onlyP hs.only (fun h => h.elim HNG.out.1 HNG.out.2))
    have HNB_3 := Lib.hid (show va.ownBlock ≠ some b3 from fun e => by rcases hs.grew _ e with h | h <;> first | exact HNG.out.2 h | (have := HS0.out.lt; omega))
    clear hm hs
    refine ⟨_, rfl, ?_⟩
    refine ⟨HS_3.out, ?_⟩
    try simp only [Act.put, List.setIfInBounds_toArray, List.set_cons_succ, List.set_cons_zero]
    refine Agg.held_ready [6] (by kernel_rfl) (by simp) ?_
    refine Agg.held_cons rfl ?_ ?_
    · refine step_toBytes rfl _ rfl pn rfl ?_
      intro v6 w_3_6 hn hx
      obtain ⟨sv, rfl⟩ := bytes_svB hn.slice
      have HSO_3_6 := Lib.hid (Off.behind (w0 := w_3) hn.slice (fun k hk => newBytes_ownB hn k hk) HM_3.out.blk.lt HM_3.out.lt)
      have HM_3_6 := Lib.hid (HM_3.out.below hx)
      have HK_3_6 := Lib.hid (HK_3.out.trans (MkStep.of_below hx))
      have HS_3_6 := Lib.hid (HS_3.out.below hx)
      have HNB_3_6 := HNB_3
      clear hn hx
      refine ⟨HS_3_6.out, ?_⟩
      try simp only [Act.put, List.setIfInBounds_toArray, List.set_cons_succ, List.set_cons_zero]
      refine Agg.held_ready [7] (by kernel_rfl) (by simp) ?_
      refine Agg.held_cons rfl ?_ ?_
      · refine Agg.step_slice1 (E := EBB) rfl _ rfl sv rfl ?_
        intro ys w_3_6_7 hys hx
        have HYO_3_6_7 := Lib.hid (Off.behind (w0 := w_3_6) hys.slice (fun k hk => (hys.block k hk).1) HM_3_6.out.blk.lt HM_3_6.out.lt)
        have HM_3_6_7 := Lib.hid (HM_3_6.out.below hx)
        have HK_3_6_7 := Lib.hid (HK_3_6.out.trans (MkStep.of_below hx))
        have HSO_3_6_7 := Lib.hid (HSO_3_6.out.step (MkStep.of_below hx))
        have HS_3_6_7 := Lib.hid (HS_3_6.out.below hx)
        have HNB_3_6_7 := HNB_3_6
        clear hys hx
        refine ⟨HS_3_6_7.out, ?_⟩
        try simp only [Act.put, List.setIfInBounds_toArray, List.set_cons_succ, List.set_cons_zero]
        refine Agg.held_ready [8] (by kernel_rfl) (by simp) ?_
        refine Agg.held_cons rfl ?_ ?_
        · refine Agg.step_call rfl 100 _ _ rfl #[.pointer (some ⟨g, 0, none⟩), ys] (by simp only [List.map_toArray, List.map_cons, List.map_nil]; rfl) (fun W => HET.out _ W) ?_
          refine (text_any g va ys sv pn (b ++ ph) _ (by simp only [List.length_append]; omega) (by omega) HYO_3_6_7.out HSO_3_6_7.out HM_3_6_7.out).mono ?_
          rintro x w_3_6_7_8 ⟨rfl, vb, hm, hs⟩
          have HM_3_6_7_8 := Lib.hid hm
          have HK_3_6_7_8 := Lib.hid (HK_3_6_7.out.trans hs)
          have HS_3_6_7_8 := Lib.hid (HS_3_6_7.out.onlyP hs.only (fun h => h.elim HNG.out.1 (HNB_3_6_7.out)))
          clear hm hs
          refine ⟨_, rfl, ?_⟩
          refine ⟨HS_3_6_7_8.out, ?_⟩
          try simp only [Act.put, List.setIfInBounds_toArray, List.set_cons_succ, List.set_cons_zero]
          refine Agg.held_end (by kernel_rfl) ?_
          go_wp2_with fail
          refine bodyPost_end (results_none rfl _ _ _) rfl ?_
          exact ⟨⟨_, rfl⟩, vb, HM_3_6_7_8.out, HX3.out.trans HK_3_6_7_8.out⟩
        exact AllReadyH.nil
      exact AllReadyH.nil
    exact AllReadyH.nil
  refine Agg.held_cons rfl ?_ ?_
  · refine step_toBytes rfl _ rfl pn rfl ?_
    intro v6 w_6 hn hx
    obtain ⟨sv, rfl⟩ := bytes_svB hn.slice
    have HSO_6 := Lib.hid (Off.behind (w0 := w0) hn.slice (fun k hk => newBytes_ownB hn k hk) HM0.out.blk.lt HM0.out.lt)
    have HM_6 := Lib.hid (HM0.out.below hx)
    have HK_6 := Lib.hid (HK0.out.trans (MkStep.of_below hx))
    have HS_6 := Lib.hid (HS0.out.below hx)
    clear hn hx
    refine ⟨HS_6.out, ?_⟩
    try simp only [Act.put, List.setIfInBounds_toArray, List.set_cons_succ, List.set_cons_zero]
    refine Agg.held_ready [3, 7] (by kernel_rfl) (by simp) ?_
    refine Agg.held_cons rfl ?_ ?_
    · refine Agg.step_call rfl 60 _ _ rfl #[.pointer (some ⟨g, 0, none⟩), .slice (some ⟨b3, 0, none⟩) 20 20] (by simp only [List.map_toArray, List.map_cons, List.map_nil]; rfl) (fun W => HER.out _ W) ?_
      refine (raw_any g v _ ph b _ (by omega) (by omega) (path_slice HS_6.out hl) HM_6.out).mono ?_
      rintro x w_3_6 ⟨rfl, va, hm, hs⟩
      have HM_3_6 := Lib.hid hm
      have HK_3_6 := Lib.hid (HK_6.out.trans hs)
      have HSO_3_6 := Lib.hid (HSO_6.out.step hs)
      have HS_3_6 := Lib.hid (HS_6.out.onlyP hs.only (fun h => h.elim HNG.out.1 HNG.out.2))
      have HNB_3_6 := Lib.hid (show va.ownBlock ≠ some b3 from fun e => by rcases hs.grew _ e with h | h <;> first | exact HNG.out.2 h | (have := HS_6.out.lt; omega))
      clear hm hs
      refine ⟨_, rfl, ?_⟩
      refine ⟨HS_3_6.out, ?_⟩
      try simp only [Act.put, List.setIfInBounds_toArray, List.set_cons_succ, List.set_cons_zero]
      refine Agg.held_ready [7] (by kernel_rfl) (by simp) ?_
      refine Agg.held_cons rfl ?_ ?_
      · refine Agg.step_slice1 (E := EBB) rfl _ rfl sv rfl ?_
        intro ys w_3_6_7 hys hx
        have HYO_3_6_7 := Lib.hid (Off.behind (w0 := w_3_6) hys.slice (fun k hk => (hys.block k hk).1) HM_3_6.out.blk.lt HM_3_6.out.lt)
        have HM_3_6_7 := Lib.hid (HM_3_6.out.below hx)
        have HK_3_6_7 := Lib.hid (HK_3_6.out.trans (MkStep.of_below hx))
        have HSO_3_6_7 := Lib.hid (HSO_3_6.out.step (MkStep.of_below hx))
        have HS_3_6_7 := Lib.hid (HS_3_6.out.below hx)
        have HNB_3_6_7 := HNB_3_6
        clear hys hx
        refine ⟨HS_3_6_7.out, ?_⟩
        try simp only [Act.put, List.setIfInBounds_toArray, List.set_cons_succ, List.set_cons_zero]
        refine Agg.held_ready [8] (by kernel_rfl) (by simp) ?_
        refine Agg.held_cons rfl ?_ ?_
        · refine Agg.step_call rfl 100 _ _ rfl #[.pointer (some ⟨g, 0, none⟩), ys] (by simp only [List.map_toArray, List.map_cons, List.map_nil]; rfl) (fun W => HET.out _ W) ?_
          refine (text_any g va ys sv pn (b ++ ph) _ (by simp only [List.length_append]; omega) (by omega) HYO_3_6_7.out HSO_3_6_7.out HM_3_6_7.out).mono ?_
          rintro x w_3_6_7_8 ⟨rfl, vb, hm, hs⟩
          have HM_3_6_7_8 := Lib.hid hm
          have HK_3_6_7_8 := Lib.hid (HK_3_6_7.out.trans hs)
          have HS_3_6_7_8 := Lib.hid (HS_3_6_7.out.onlyP hs.only (fun h => h.elim HNG.out.1 (HNB_3_6_7.out)))
          clear hm hs
          refine ⟨_, rfl, ?_⟩
          refine ⟨HS_3_6_7_8.out, ?_⟩
          try simp only [Act.put, List.setIfInBounds_toArray, List.set_cons_succ, List.set_cons_zero]
          refine Agg.held_end (by kernel_rfl) ?_
          go_wp2_with fail
          refine bodyPost_end (results_none rfl _ _ _) rfl ?_
          exact ⟨⟨_, rfl⟩, vb, HM_3_6_7_8.out, HX3.out.trans HK_3_6_7_8.out⟩
        exact AllReadyH.nil
      exact AllReadyH.nil
    refine Agg.held_cons rfl ?_ ?_
    · refine Agg.step_slice1 (E := EBB) rfl _ rfl sv rfl ?_
      intro ys w_6_7 hys hx
      have HYO_6_7 := Lib.hid (Off.behind (w0 := w_6) hys.slice (fun k hk => (hys.block k hk).1) HM_6.out.blk.lt HM_6.out.lt)
      have HM_6_7 := Lib.hid (HM_6.out.below hx)
      have HK_6_7 := Lib.hid (HK_6.out.trans (MkStep.of_below hx))
      have HSO_6_7 := Lib.hid (HSO_6.out.step (MkStep.of_below hx))
      have HS_6_7 := Lib.hid (HS_6.out.below hx)
      clear hys hx
      refine ⟨HS_6_7.out, ?_⟩
      try simp only [Act.put, List.setIfInBounds_toArray, List.set_cons_succ, List.set_cons_zero]
      refine Agg.held_ready [3] (by kernel_rfl) (by simp) ?_
      refine Agg.held_cons rfl ?_ ?_
      · refine Agg.step_call rfl 60 _ _ rfl #[.pointer (some ⟨g, 0, none⟩), .slice (some ⟨b3, 0, none⟩) 20 20] (by simp only [List.map_toArray, List.map_cons, List.map_nil]; rfl) (fun W => HER.out _ W) ?_
        refine (raw_any g v _ ph b _ (by omega) (by omega) (path_slice HS_6_7.out hl) HM_6_7.out).mono ?_
        rintro x w_3_6_7 ⟨rfl, va, hm, hs⟩
        have HM_3_6_7 := Lib.hid hm
        have HK_3_6_7 := Lib.hid (HK_6_7.out.trans hs)
        have HSO_3_6_7 := Lib.hid (HSO_6_7.out.step hs)
        have HYO_3_6_7 := Lib.hid (HYO_6_7.out.step hs)
        have HS_3_6_7 := Lib.hid (HS_6_7.out.onlyP hs.only (fun h => h.elim HNG.out.1 HNG.out.2))
        have HNB_3_6_7 := Lib.hid (show va.ownBlock ≠ some b3 from fun e => by rcases hs.grew _ e with h | h <;> first | exact HNG.out.2 h | (have := HS_6_7.out.lt; omega))
        clear hm hs
        refine ⟨_, rfl, ?_⟩
        refine ⟨HS_3_6_7.out, ?_⟩
        try simp only [Act.put, List.setIfInBounds_toArray, List.set_cons_succ, List.set_cons_zero]
        refine Agg.held_ready [8] (by kernel_rfl) (by simp) ?_
        refine Agg.held_cons rfl ?_ ?_
        · refine Agg.step_call rfl 100 _ _ rfl #[.pointer (some ⟨g, 0, none⟩), ys] (by simp only [List.map_toArray, List.map_cons, List.map_nil]; rfl) (fun W => HET.out _ W) ?_
          refine (text_any g va ys sv pn (b ++ ph) _ (by simp only [List.length_append]; omega) (by omega) HYO_3_6_7.out HSO_3_6_7.out HM_3_6_7.out).mono ?_
          rintro x w_3_6_7_8 ⟨rfl, vb, hm, hs⟩
          have HM_3_6_7_8 := Lib.hid hm
          have HK_3_6_7_8 := Lib.hid (HK_3_6_7.out.trans hs)
          have HS_3_6_7_8 := Lib.hid (HS_3_6_7.out.onlyP hs.only (fun h => h.elim HNG.out.1 (HNB_3_6_7.out)))
          clear hm hs
          refine ⟨_, rfl, ?_⟩
          refine ⟨HS_3_6_7_8.out, ?_⟩
          try simp only [Act.put, List.setIfInBounds_toArray, List.set_cons_succ, List.set_cons_zero]
          refine Agg.held_end (by kernel_rfl) ?_
          go_wp2_with fail
          refine bodyPost_end (results_none rfl _ _ _) rfl ?_
          exact ⟨⟨_, rfl⟩, vb, HM_3_6_7_8.out, HX3.out.trans HK_3_6_7_8.out⟩
        exact AllReadyH.nil
      exact AllReadyH.nil
    exact AllReadyH.nil
  exact AllReadyH.nil
end Go.Proofs.YtniibcgomnjfgaaGreat
/-! real.Put of the example. -/
namespace Go.Proofs.YtniibcgomnjfgaaGreat
open Go.RowKit Pl Go.Agg
/-- the example -/
def xB : Bu := ⟨⟨z20, rfl⟩, ⟨z20, rfl⟩, ⟨(z20, [120]), rfl⟩, 3, []⟩
def xV : BuV := (xB, none, 0, 0)
def keyB : List UInt8 := ((98 :: z20) ++ z20) ++ [3]
def rowC (k : List UInt8) (v : Value) : Array Value := #[.string ⟨k.toArray⟩, v]
theorem row_under : Tryz.prog.underlying 57 = some (.struct (Tryz.prog.fieldsOf 57)) := by kernel_rfl
theorem row_info (k : List UInt8) (v : Value) : (Tryz.prog.info? 57).map (·.size) = some (rowC k v).size := by kernel_rfl
theorem row_one (k : List UInt8) (p : Option Addr) (n c : Nat) : (rowC k (.slice p n c)).all (·.oneCell') = true := by simp [rowC, Value.oneCell']
theorem row_load {w : World} {b : Nat} {k : List UInt8} {v : Value} (h : Blk w b 57 (rowC k v)) : LoadsL Tryz.prog w 57 (some ⟨b, 0, none⟩) (.agg (rowC k v)) := h.loads row_under rfl (by kernel_rfl)
theorem rowB_key {w : World} {b : Nat} {k0 : List UInt8} {v : Value} (h : Blk w b 57 (rowC k0 v)) (k : List UInt8) : ∃ w', (Instr.storeAt 9 (.pointer (some ⟨b, 0, none⟩)) (.string ⟨k.toArray⟩)).run Tryz.prog w = .ok () w' ∧ Blk w' b 57 (rowC k v) ∧ Only (· = b) w w' :=
  h.run_one 0 (by simp [rowC]) _ rfl rfl (by kernel_rfl) _ (by simp [rowC])
theorem rowB_val {w : World} {b : Nat} {k : List UInt8} {v0 : Value} (h : Blk w b 57 (rowC k v0)) (v : Value) (hv : v.cells = #[v]) (h1 : v.oneCell' = true) : ∃ w', (Instr.storeAt 55 (.pointer (some ⟨b, 1, none⟩)) v).run Tryz.prog w = .ok () w' ∧ Blk w' b 57 (rowC k v) ∧ Only (· = b) w w' :=
  h.run_one 1 (by simp [rowC]) _ hv h1 (by kernel_rfl) _ (by simp [rowC])
theorem exec_toStrB {o : Oper} {a : Act} {w : World} {x : Operand} {v : Value} {s : List UInt8} (ho : o.op = .convert 55 9 x) (hx : a.eval x = v) (hs : BytesAt w v s) : (execOp a.eval o).run Tryz.prog w = .ok (.value (.string ⟨s.toArray⟩)) w := by simp [execOp, ho, hx, run_toStr hs]
theorem xB_slice0 {w : World} {b : Nat} (h : Blk w b 29 (bC xV)) : BytesAt w (.slice (some ⟨b, 0, none⟩) 20 20) z20 :=
  .inr ⟨_, 20, rfl, h.lt, fun j v hj => by
    rw [add_plain, h.cell]
    refine bC_cl xV j v ?_
    rw [flat_bytes] at hj
    show (hC z20)[j]? = some v
    simpa [hC] using hj⟩
theorem xB_slice20 {w : World} {b : Nat} (h : Blk w b 29 (bC xV)) : BytesAt w (.slice (some ⟨b, 20, none⟩) 20 20) z20 :=
  .inr ⟨_, 20, rfl, h.lt, fun j v hj => by
    rw [add_plain, h.cell]
    refine bC_ky xV j v ?_
    rw [flat_bytes] at hj
    show (hC z20)[j]? = some v
    simpa [hC] using hj⟩
theorem mk_other {g b2 : Nat} {w w' : World} {v : Value} {l : List UInt8} {cs : Array Value} (hm : MkV g w v l) (hb : Blk w b2 57 cs) (ho : Only (· = b2) w w') (hne : g ≠ b2) : MkV g w' v l :=
  ⟨hm.blk.onlyP ho hne, hm.own.onlyT hb (by decide) (fun k h1 h2 => ho.block k h1 h2)⟩
theorem mk_row {g b2 : Nat} {w w' : World} {v v' : Value} {cs : Array Value} {l : List UInt8} {t : TypeId} (hm : MkV g w v l) (hb : Blk w b2 t cs) (ht : t ≠ 5) (hs : MkStep g w w' v v') (hne : b2 ≠ g) : Blk w' b2 t cs :=
  hb.onlyP hs.only fun h => h.elim hne fun e => by
    obtain ⟨_, cur, hc⟩ := hm.own.block _ e
    unfold Blk at hb
    rw [hb] at hc
    injection hc with hc
    injection hc with _ h2
    exact ht h2
set_option maxRecDepth 100000 in
set_option maxHeartbeats 16000000 in
theorem put22_ex (w : World) :
    Calls Tryz.prog 29 #[.agg (bC xV)] w fun e w' => ∃ v', e = .returned (.tuple #[.agg (rowC keyB v'), .int .i64 0]) ∧ BytesAt w' v' ((([] ++ z20) ++ (encN ([120] : List UInt8).length ++ [120])) ++ ([0] : List Nat).flatMap encN) ∧ Below w.heap.size w w' := by
  have HBLD := Lib.hid (fun W => (by kernel_rfl : (Instr.build 107 #[]).run Tryz.prog W = .ok (.agg (mkC (.slice none 0 0))) W))
  have HE1 := Lib.hid (show encN 1 = [1] from encN_lt (by omega))
  have HE0 := Lib.hid (show encN 0 = [0] from encN_lt (by omega))
  have hin : ∀ W, InsAt W xV := fun W => SliceOf.nil _ _ _
  have hlen : ∀ W, (Builtin.len_ #[27] 3 #[ivV xV.2]).run Tryz.prog W = .ok (.int .i64 ((0 : Nat) : Int)) W := fun W => mds_len (hin W) W
  go_enter Tryz.func29, Tryz.ntmps29
  go_wp2_with (first | (with_reducible refine wpList_box rfl 29 _ rfl (bC xV) rfl ?_; intro b1 w1 hb1 hx1 hg1; have HB1 := Lib.hid hb1; have HX1 := Lib.hid hx1; have HG1 := Lib.hid hg1; clear hb1 hx1 hg1) | (with_reducible refine wpList_zero rfl 57 rfl (rowC [] (.slice none 0 0)) (by kernel_rfl) ?_; intro b2 w2 hb2 hx2 hg2; have HR2 := Lib.hid hb2; have HB2 := Lib.hid (HB1.out.below hx2); have HL2 := Lib.hid (BuG.of_blk HB2.out); have HX2 := Lib.hid (Agg.belowThen HX1.out (Nat.le_refl _) hx2); have HG2 := Lib.hid (Nat.le_trans HX1.out.size hg2); have HN1 := Lib.hid (show b1 ≠ b2 from fun e => (by have := HB1.out.lt; omega)); clear hb2 hx2 hg2) | (with_reducible refine wpList_loadL HL2.out.all rfl _ rfl rfl ?_))
  refine (buRight_any xV w2 (hin _)).mono ?_
  rw [show rightBu xV.1 = true by decide]
  rintro e w3 ⟨rfl, hx3⟩
  have HB3 := Lib.hid (HB2.out.below hx3)
  have HR3 := Lib.hid (HR2.out.below hx3)
  have HX3 := Lib.hid (Agg.belowThen HX2.out (Nat.le_refl _) hx3)
  clear hx3
  go_wp2_with (first | (with_reducible refine Agg.wpList_build0 107 rfl rfl (.agg (mkC (.slice none 0 0))) HBLD.out ?_) | (with_reducible refine wpList_box rfl 107 _ rfl (mkC (.slice none 0 0)) rfl ?_; intro g4 w4 hb4 hx4 hg4; have HM4 := Lib.hid (⟨hb4, Own.nil _ _ _⟩ : MkV g4 w4 (.slice none 0 0) []); have HB4 := Lib.hid (HB3.out.below hx4); have HL4 := Lib.hid (BuG.of_blk HB4.out); have HR4 := Lib.hid (HR3.out.below hx4); have HX4 := Lib.hid (Agg.belowThen HX3.out (Nat.le_refl _) hx4); have HG4 := Lib.hid (Nat.le_trans HX3.out.size hg4); have HN4 := Lib.hid (show g4 ≠ b2 from fun e => (by have := HR3.out.lt; omega)); have HN5 := Lib.hid (show b1 ≠ g4 from fun e => (by have := HB3.out.lt; omega)); clear hb4 hx4 hg4) | (with_reducible refine wpList_loadL HL4.out.path rfl _ rfl rfl ?_))
  refine (path22_any g4 _ [] z20 [120] rfl (by decide) (by decide) w4 HM4.out).mono ?_
  rintro e w5 ⟨⟨r5, rfl⟩, v5, hm5, hs5⟩
  have HM5 := Lib.hid hm5
  have HB5 := Lib.hid (mk_row HM4.out HB4.out (by decide) hs5 HN5.out)
  have HR5 := Lib.hid (mk_row HM4.out HR4.out (by decide) hs5 (Ne.symm HN4.out))
  have HL5 := Lib.hid (BuG.of_blk HB5.out)
  have HX5 := Lib.hid (HX4.out.trans ((HM4.out.stepBelow hs5).mono HG4.out))
  clear hm5 hs5
  go_wp2_with (first | (with_reducible refine wpList_loadL HL5.out.ins rfl _ rfl rfl ?_) | (refine Agg.wpList_slice1 (E := EI) (base := w5.heap.size) rfl _ rfl (0 : Nat) rfl (Nat.le_refl _) ?_; intro xs6 w6 hxs hx6; have HXS := Lib.hid (Off.behind (w0 := w5) hxs.slice (fun k hk => (hxs.block k hk).1) HM5.out.blk.lt HM5.out.lt); have HM6 := Lib.hid (HM5.out.below hx6); have HB6 := Lib.hid (HB5.out.below hx6); have HR6 := Lib.hid (HR5.out.below hx6); have HX6 := Lib.hid (Agg.belowThen HX5.out (Nat.le_refl _) hx6); clear hxs hx6))
  refine (num_any g4 v5 xs6 [0] _ w6 (by intro n hn; simp only [List.mem_cons, List.not_mem_nil, or_false] at hn; omega) (by simp) (by simp [z20_length, HE1.out]) HXS.out HM6.out).mono ?_
  rintro e w7 ⟨rfl, v7, hm7, hs7⟩
  have HM7 := Lib.hid hm7
  have HB7 := Lib.hid (mk_row HM6.out HB6.out (by decide) hs7 HN5.out)
  have HR7 := Lib.hid (mk_row HM6.out HR6.out (by decide) hs7 (Ne.symm HN4.out))
  have HL7 := Lib.hid (BuG.of_blk HB7.out)
  have HX7 := Lib.hid (HX6.out.trans ((HM6.out.stepBelow hs7).mono HG4.out))
  clear hm7 hs7
  go_wp2_with (first | (with_reducible refine wpList_loadL HL7.out.ins rfl _ rfl rfl ?_))
  go_loopw [26] (fun i wr => i = .int .i64 0 ∧ wr = w7) (fun _ _ => 0)
  case atStart => exact ⟨rfl, rfl⟩
  case round =>
    obtain ⟨rfl, rfl⟩ := hrel
    go_wp2_with fail
    try simp only [Act.put, List.setIfInBounds_toArray, List.set_cons_succ, List.set_cons_zero]
    obtain ⟨w8, hw8⟩ : ∃ W, W = wr.drew := ⟨_, rfl⟩
    have hd : Below wr.heap.size wr w8 := by rw [hw8]; exact (Below.refl _ _).drew
    have HB8 := Lib.hid (HB7.out.below hd)
    have HR8 := Lib.hid (HR7.out.below hd)
    have HM8 := Lib.hid (HM7.out.below hd)
    have HX8 := Lib.hid (Agg.belowThen HX7.out (Nat.le_refl _) hd)
    refine wp_region_held_drew (S := fun W => Blk W b1 29 (bC xV)) (by kernel_rfl) (by rw [← hw8]; exact HB8.out) (fun hHeld => ?_)
    rw [← hw8] at hHeld ⊢
    clear hw8 hd
    refine Agg.held_take 0 (.pointer (some ⟨b1, 0, none⟩)) rfl (by kernel_rfl) (fun _ _ _ h => h) rfl (fun W _ => by kernel_rfl) (by assumption) ?_
    try simp only [Act.put, List.setIfInBounds_toArray, List.set_cons_succ, List.set_cons_zero]
    refine Agg.held_take 1 (.slice (some ⟨b1, 0, none⟩) 20 20) rfl (by kernel_rfl) (fun _ _ _ h => h) rfl (fun W _ => by kernel_rfl) (by assumption) ?_
    try simp only [Act.put, List.setIfInBounds_toArray, List.set_cons_succ, List.set_cons_zero]
    refine Agg.held_take 2 (.string ⟨z20.toArray⟩) rfl (by kernel_rfl) (fun _ _ _ h => h) rfl (fun W hS => exec_toStrB rfl rfl (xB_slice0 hS)) (by assumption) ?_
    try simp only [Act.put, List.setIfInBounds_toArray, List.set_cons_succ, List.set_cons_zero]
    refine Agg.held_take 3 (.string ⟨(98 :: z20).toArray⟩) rfl (by kernel_rfl) (fun _ _ _ h => h) rfl (fun W _ => by kernel_rfl) (by assumption) ?_
    try simp only [Act.put, List.setIfInBounds_toArray, List.set_cons_succ, List.set_cons_zero]
    refine Agg.held_take 4 (.pointer (some ⟨b1, 20, none⟩)) rfl (by kernel_rfl) (fun _ _ _ h => h) rfl (fun W _ => by kernel_rfl) (by assumption) ?_
    try simp only [Act.put, List.setIfInBounds_toArray, List.set_cons_succ, List.set_cons_zero]
    refine Agg.held_take 5 (.slice (some ⟨b1, 20, none⟩) 20 20) rfl (by kernel_rfl) (fun _ _ _ h => h) rfl (fun W _ => by kernel_rfl) (by assumption) ?_
    try simp only [Act.put, List.setIfInBounds_toArray, List.set_cons_succ, List.set_cons_zero]
    refine Agg.held_take 6 (.string ⟨z20.toArray⟩) rfl (by kernel_rfl) (fun _ _ _ h => h) rfl (fun W hS => exec_toStrB rfl rfl (xB_slice20 hS)) (by assumption) ?_
    try simp only [Act.put, List.setIfInBounds_toArray, List.set_cons_succ, List.set_cons_zero]
    refine Agg.held_take 7 (.string ⟨((98 :: z20) ++ z20).toArray⟩) rfl (by kernel_rfl) (fun _ _ _ h => h) rfl (fun W _ => by kernel_rfl) (by assumption) ?_
    try simp only [Act.put, List.setIfInBounds_toArray, List.set_cons_succ, List.set_cons_zero]
    refine Agg.held_take 8 (.pointer (some ⟨b1, 61, none⟩)) rfl (by kernel_rfl) (fun _ _ _ h => h) rfl (fun W _ => by kernel_rfl) (by assumption) ?_
    try simp only [Act.put, List.setIfInBounds_toArray, List.set_cons_succ, List.set_cons_zero]
    refine Agg.held_take 9 (.int .i64 3) rfl (by kernel_rfl) (fun _ _ _ h => h) rfl (fun W hS => exec_loadB rfl rfl (hS.one (ty := 3) 61 (by rw [show 61 = 61 + 0 from rfl, bC_tail]; rfl) Tryz.underlying3 rfl).now) (by assumption) ?_
    try simp only [Act.put, List.setIfInBounds_toArray, List.set_cons_succ, List.set_cons_zero]
    refine Agg.held_take 10 (.int .u8 3) rfl (by kernel_rfl) (fun _ _ _ h => h) rfl (fun W _ => by kernel_rfl) (by assumption) ?_
    try simp only [Act.put, List.setIfInBounds_toArray, List.set_cons_succ, List.set_cons_zero]
    refine Agg.held_ready [11] (by kernel_rfl) (by simp) ?_
    refine Agg.held_cons rfl ?_ ?_
    · refine Agg.step_slice1 (E := EB) rfl _ rfl (3 : UInt8) rfl ?_
      intro v11 w11 hys hx
      have HS11 := Lib.hid hys.slice
      have HB11 := Lib.hid (HB8.out.below hx)
      have HR11 := Lib.hid (HR8.out.below hx)
      have HM11 := Lib.hid (HM8.out.below hx)
      have HX11 := Lib.hid (Agg.belowThen HX8.out (Nat.le_refl _) hx)
      clear hys hx
      refine ⟨HB11.out, ?_⟩
      try simp only [Act.put, List.setIfInBounds_toArray, List.set_cons_succ, List.set_cons_zero]
      refine Agg.held_ready [12] (by kernel_rfl) (by simp) ?_
      refine Agg.held_cons rfl ?_ ?_
      · refine Agg.step_val rfl (v := .string ⟨([3] : List UInt8).toArray⟩) (w' := w11) (exec_toStrB rfl rfl HS11.out) ?_
        refine ⟨HB11.out, ?_⟩
        try simp only [Act.put, List.setIfInBounds_toArray, List.set_cons_succ, List.set_cons_zero]
        refine Agg.held_take 13 (.string ⟨keyB.toArray⟩) rfl (by kernel_rfl) (fun _ _ _ h => h) rfl (fun W _ => by kernel_rfl) (by assumption) ?_
        try simp only [Act.put, List.setIfInBounds_toArray, List.set_cons_succ, List.set_cons_zero]
        refine Agg.held_take 14 (.pointer (some ⟨b2, 0, none⟩)) rfl (by kernel_rfl) (fun _ _ _ h => h) rfl (fun W _ => by kernel_rfl) (by assumption) ?_
        try simp only [Act.put, List.setIfInBounds_toArray, List.set_cons_succ, List.set_cons_zero]
        refine Agg.held_ready [15] (by kernel_rfl) (by simp) ?_
        refine Agg.held_cons rfl ?_ ?_
        · obtain ⟨w15, hr15, hb15, ho15⟩ := rowB_key HR11.out keyB
          refine Agg.step_store rfl rfl 9 _ _ rfl (.pointer (some ⟨b2, 0, none⟩)) (.string ⟨keyB.toArray⟩) rfl rfl hr15 ?_
          have HB15 := Lib.hid (HB11.out.onlyP ho15 HN1.out)
          have HM15 := Lib.hid (mk_other HM11.out HR11.out ho15 HN4.out)
          have HR15 := Lib.hid hb15
          have HX15 := Lib.hid (HX11.out.trans (ho15.below (B := w.heap.size) HX11.out.size (fun i hi => by subst hi; exact HG2.out)))
          clear hr15 hb15 ho15
          refine ⟨HB15.out, ?_⟩
          try simp only [Act.put, List.setIfInBounds_toArray, List.set_cons_succ, List.set_cons_zero]
          refine Agg.held_end (by kernel_rfl) ?_
          go_wp2_with fail
          refine (done_any g4 _ _ _ (by simp [z20_length, HE1.out, HE0.out]) HM15.out).mono ?_
          rintro e w16 ⟨v16, rfl, ho16, hx16⟩
          obtain ⟨p16, n16, c16, rfl⟩ : ∃ p n c, v16 = .slice p n c := (by obtain ⟨p, c, h⟩ := ho16.slice.form; exact ⟨p, _, c, h⟩)
          obtain ⟨w17, hr17, hb17, ho17⟩ := rowB_val (HR15.out.below hx16) (.slice p16 n16 c16) rfl rfl
          have HR17 := Lib.hid hr17
          have HRL := Lib.hid (row_load hb17)
          have HB17 := Lib.hid hb17
          have HO17 := Lib.hid (ho16.onlyT (HR15.out.below hx16) (by decide) (fun k h1 h2 => ho17.block k h1 h2))
          have HX16 := Lib.hid (Agg.belowThen HX15.out (Nat.le_refl _) hx16)
          have HX17 := Lib.hid (HX16.out.trans (ho17.below (B := w.heap.size) HX16.out.size (fun i hi => by subst hi; exact HG2.out)))
          clear hr17 hb17 ho17 ho16 hx16
          go_wp2_with (first | (with_reducible refine wpList_store rfl rfl 55 _ _ rfl (.pointer (some ⟨b2, 1, none⟩)) (.slice p16 n16 c16) rfl rfl HR17.out ?_) | (with_reducible refine wpList_loadL HRL.out rfl _ rfl rfl ?_) | ((with_reducible refine wpList_put rfl rfl 57 _ _ rfl b2 (rowC keyB (.slice p16 n16 c16)) (rowC keyB (.slice p16 n16 c16)) rfl rfl HB17.out (row_info _ _) rfl (row_one _ _ _ _) ?_); intro w18 hb18 hx18 hs18 hk18; have HB18 := Lib.hid hb18; have HO18 := Lib.hid (HO17.out.onlyT HB17.out (by decide) (fun k _ h2 => hk18 k h2)); have HX18 := Lib.hid (HX17.out.trans (hx18.mono HG2.out)); clear hb18 hx18 hs18 hk18))
          exact post_row_tmp rfl rfl rfl HB18.out row_under rfl (by kernel_rfl) rfl ⟨_, rfl, HO18.out.slice, HX18.out⟩
        exact AllReadyH.nil
      exact AllReadyH.nil
    exact AllReadyH.nil
end Go.Proofs.YtniibcgomnjfgaaGreat
