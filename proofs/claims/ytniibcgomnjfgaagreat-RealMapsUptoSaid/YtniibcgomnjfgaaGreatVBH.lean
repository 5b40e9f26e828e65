/- RealMaps answers true. -/
import Derived.Test.YtniibcgomnjfgaaGreatVBF
import Derived.Test.YtniibcgomnjfgaaGreatVBG
namespace Go.Agg
open Go.RowKit
variable {P : Program} {ops : Array Oper} {o : Oper} {a : Act} {w : World} {Q : Exit → Act → World → Prop} {K : Act → World → Prop} {F : Prop}
theorem step_allocB (hg : o.guard = none) (ty : TypeId) (ho : o.op = .alloc ty) (cs : Array Value) (hz : (P.info? ty).map (·.zero) = some (some (.agg cs)))
    (h : ∀ g w', Blk w' g ty cs → Below w.heap.size w w' → w.heap.size ≤ g → K (a.put o.dst (.pointer (some ⟨g, 0, none⟩))) w') : if Region.wanted o (yielded ops a.tmps) = true then o.wp P a w K Q else F := by
  refine step_val hg (v := .pointer (some ⟨w.heap.size, 0, none⟩)) (w' := w.alloc (.cells cs ty)) ?_ (h _ _ (Blk.new _ _ _) ((Below.refl _ _).alloc (Nat.le_refl _) _) (Nat.le_refl _))
  cases hq : P.info? ty with
  | none => simp [hq] at hz
  | some i =>
    have hs : i.zero = some (.agg cs) := by simpa [hq] using hz
    simp [execOp, ho, Instr.alloc, zeroValue, typeInfo, hq, hs, newVar, newRow, Value.cells]
theorem SliceOf.pushed {α β : Type} {E : Elem P α} {E' : Elem P β} {base : Nat} {w w' : World} {x v : Value} {l : List α} (h : SliceOf E w x l) (hp : Pushed E' base w w' v) (hne : ∀ k, x.ownBlock = some k → v.ownBlock = some k → False) : SliceOf E w' x l := by
  refine h.onlyS hp.only fun k h1 h2 => hne k h1 h2
end Go.Agg
namespace Go.Proofs.YtniibcgomnjfgaaGreat
open Go.RowKit Pl Go.Agg
theorem only_belowM {S : Nat → Prop} {w0 w w' : World} (hb : Below w0.heap.size w0 w) (ho : Only S w w') (hS : ∀ b, S b → w0.heap.size ≤ b) : Below w0.heap.size w0 w' := hb.trans (ho.below (B := w0.heap.size) hb.size hS)
set_option maxRecDepth 100000 in
set_option maxHeartbeats 32000000 in
theorem realMaps_any (v u : Value) (l : List BuV) (b : BuV) (h : H20) (held : List P20) (hl : l.length + 1 ≤ 1048576) (hni : ∀ x ∈ l, x.1.ins.length ≤ 1048576 ∧ x.1.pa.1.2.length ≤ 1048576 ∧ ∀ m ∈ x.1.ins, m.2.1.2.length ≤ 1048576) (hnb : b.1.ins.length ≤ 1048576 ∧ b.1.pa.1.2.length ≤ 1048576 ∧ ∀ m ∈ b.1.ins, m.2.1.2.length ≤ 1048576) (hh : held.length ≤ 1048576) (hhn : ∀ q ∈ held, q.1.2.length ≤ 1048576) (w : World) (hs : BusAt w v l) (hb : InsAt w b) (ht : ElemsAt w u held) :
    Calls Tryz.prog 3 #[v, .agg (bC b), .agg (hC h.1), u] w fun e w' => e = .returned (.bool true) ∧ Below w.heap.size w w' := by
  have HE4 := Lib.hid (enters_of Tryz.func4 (by kernel_rfl) rfl : ∀ args w, (callFunc 4 args).run Tryz.prog w = .ok (.enter 4 args) w)
  have HE5 := Lib.hid (enters_of Tryz.func5 (by kernel_rfl) rfl : ∀ args w, (callFunc 5 args).run Tryz.prog w = .ok (.enter 5 args) w)
  have HE7 := Lib.hid (enters_of Tryz.func7 (by kernel_rfl) rfl : ∀ args w, (callFunc 7 args).run Tryz.prog w = .ok (.enter 7 args) w)
  have HE8 := Lib.hid (enters_of Tryz.func8 (by kernel_rfl) rfl : ∀ args w, (callFunc 8 args).run Tryz.prog w = .ok (.enter 8 args) w)
  have HE9 := Lib.hid (enters_of Tryz.func9 (by kernel_rfl) rfl : ∀ args w, (callFunc 9 args).run Tryz.prog w = .ok (.enter 9 args) w)
  have HE12 := Lib.hid (enters_of Tryz.func12 (by kernel_rfl) rfl : ∀ args w, (callFunc 12 args).run Tryz.prog w = .ok (.enter 12 args) w)
  have HE13 := Lib.hid (enters_of Tryz.func13 (by kernel_rfl) rfl : ∀ args w, (callFunc 13 args).run Tryz.prog w = .ok (.enter 13 args) w)
  have HE14 := Lib.hid (enters_of Tryz.func14 (by kernel_rfl) rfl : ∀ args w, (callFunc 14 args).run Tryz.prog w = .ok (.enter 14 args) w)
  have HE15 := Lib.hid (enters_of Tryz.func15 (by kernel_rfl) rfl : ∀ args w, (callFunc 15 args).run Tryz.prog w = .ok (.enter 15 args) w)
  have HS := Lib.hid hs
  have HB := Lib.hid hb
  have HT := Lib.hid ht
  have HN3 := Lib.hid hni
  have HNB := Lib.hid hnb
  have HHN := Lib.hid hhn
  have HNI := Lib.hid (fun x hx => (hni x hx).1 : ∀ x ∈ l, x.1.ins.length ≤ 1048576)
  have HSM := Lib.hid (fun x hx => ⟨(hni x hx).2.1, (hni x hx).2.2⟩ : ∀ x ∈ l, SmallB x.1)
  have HSB := Lib.hid (⟨hnb.2.1, hnb.2.2⟩ : SmallB b.1)
  have HNL := Lib.hid (fun x hx => (List.mem_append.1 hx).elim (hni x) (fun h => by rw [List.mem_singleton.1 h]; exact hnb) : ∀ x ∈ l ++ [b], x.1.ins.length ≤ 1048576 ∧ x.1.pa.1.2.length ≤ 1048576 ∧ ∀ m ∈ x.1.ins, m.2.1.2.length ≤ 1048576)
  clear hs hb ht hni hnb hhn
  go_enter Tryz.func3, Tryz.ntmps3
  go_wp2_with (first | (with_reducible refine wpList_box rfl 29 _ rfl (bC b) rfl ?_; intro g5 w1 hb1 hx1 hg1; have HB1 := Lib.hid hb1; have HX1 := Lib.hid hx1; clear hb1 hx1 hg1) | (with_reducible refine wpList_box rfl 24 _ rfl (hC h.1) rfl ?_; intro g6 w2 hb2 hx2 hg2; have HH2 := Lib.hid (hb2.loads (P := Tryz.prog) Tryz.underlying24 rfl (hC_info _ h.2)); have HB2 := Lib.hid (HB1.out.below hx2); have HX2 := Lib.hid (Agg.belowThen HX1.out (Nat.le_refl _) hx2); clear hb2 hx2 hg2))
  have HLB := Lib.hid (fun W (k : Below w2.heap.size w2 W) => (BuG.of_blk (HB2.out.below k)).all)
  have HSW := Lib.hid (fun W (k : Below w2.heap.size w2 W) => HS.out.below (Agg.belowThen HX2.out (Nat.le_refl _) k))
  have HTW := Lib.hid (fun W (k : Below w2.heap.size w2 W) => (SliceOf.below HT.out (Agg.belowThen HX2.out (Nat.le_refl _) k) : ElemsAt W u held))
  have HIL := Lib.hid (fun W (k : Below w2.heap.size w2 W) x hx => (List.mem_append.1 hx).elim (fun h => (HSW.out W k).ins x h) (fun h => by rw [List.mem_singleton.1 h]; exact HB.out.below (Agg.belowThen HX2.out (Nat.le_refl _) k)) : ∀ W (k : Below w2.heap.size w2 W), ∀ x ∈ l ++ [b], InsAt W x)
  try simp only [List.append_eq, List.cons_append, List.nil_append]
  try simp only [Act.put, List.setIfInBounds_toArray, List.set_cons_succ, List.set_cons_zero]
  refine Agg.wp_cutR (fun a a' w' => ∃ bb : Bool, (bb = false → l.length + 1 ≤ 2000) ∧ Below w2.heap.size w2 w' ∧ Agg.ExPut [22, 23, 24, 25, 26, 27, 28, 29, 30, 31, 32, 33] (a.put (some 34) (.bool bb)) a') ?_ ?_
  · obtain ⟨w_d, hwd⟩ : ∃ W, W = w2.drew := ⟨_, rfl⟩
    have hd : Below w2.heap.size w2 w_d := by rw [hwd]; exact (Below.refl _ _).drew
    have K_d := Lib.hid hd
    have S_d := Lib.hid (HLB.out w_d hd)
    refine wp_region_held_drew (S := fun W => LoadsL Tryz.prog W 29 (some ⟨g5, 0, none⟩) (.agg (bC b))) (by kernel_rfl) (by rw [← hwd]; exact S_d.out) (fun hHeld => ?_)
    rw [← hwd] at hHeld ⊢
    clear hwd hd hHeld
    refine Agg.held_take 1 (v) rfl (by kernel_rfl) (fun _ _ _ h => h) rfl (fun W _ => by kernel_rfl) (by assumption) ?_
    try simp only [Act.put, List.setIfInBounds_toArray, List.set_cons_succ, List.set_cons_zero]
    refine Agg.held_take 3 (.agg (bC b)) rfl (by kernel_rfl) (fun _ _ _ h => h) rfl (fun W hS => exec_loadB rfl rfl hS.now) (by assumption) ?_
    try simp only [Act.put, List.setIfInBounds_toArray, List.set_cons_succ, List.set_cons_zero]
    refine Agg.held_ready [0, 4] (by kernel_rfl) (by simp) ?_
    refine Agg.held_cons rfl ?_ ?_
    · refine Agg.step_slice0 (base := w2.heap.size) EBu rfl rfl K_d.out.size ?_
      intro v0 w_d_0 ho hx hr0
      have K_d_0 := Lib.hid (Agg.belowThen K_d.out (Nat.le_refl _) hx)
      have S_d_0 := Lib.hid (HLB.out w_d_0 K_d_0.out)
      have V0_d_0 := Lib.hid ho
      have R0 := Lib.hid hr0
      clear ho hx hr0
      refine ⟨S_d_0.out, ?_⟩
      try simp only [Act.put, List.setIfInBounds_toArray, List.set_cons_succ, List.set_cons_zero]
      refine Agg.held_ready [2, 4] (by kernel_rfl) (by simp) ?_
      refine Agg.held_cons rfl ?_ ?_
      · refine Agg.step_appendS (E := EBu) (base := w2.heap.size) rfl _ _ rfl v rfl rfl l V0_d_0.out (HSW.out _ K_d_0.out).row (by simp; omega) (by decide) K_d_0.out.size ?_
        intro v2 w_d_0_2 ho hp
        have K_d_0_2 := Lib.hid (K_d_0.out.trans (hp.below w2.heap.size (Nat.le_refl _) K_d_0.out.size))
        have S_d_0_2 := Lib.hid (HLB.out w_d_0_2 K_d_0_2.out)
        have V2_d_0_2 := Lib.hid ho
        clear ho hp
        refine ⟨S_d_0_2.out, ?_⟩
        try simp only [Act.put, List.setIfInBounds_toArray, List.set_cons_succ, List.set_cons_zero]
        refine Agg.held_ready [4] (by kernel_rfl) (by simp) ?_
        refine Agg.held_cons rfl ?_ ?_
        · refine Agg.step_slice1 (E := EBu) rfl _ rfl b rfl ?_
          intro ys w_d_0_2_4 hys hx
          have K_d_0_2_4 := Lib.hid (Agg.belowThen K_d_0_2.out (Nat.le_refl _) hx)
          have S_d_0_2_4 := Lib.hid (HLB.out w_d_0_2_4 K_d_0_2_4.out)
          have Y_d_0_2_4 := Lib.hid hys.slice
          have R4 := Lib.hid (own_inG hys)
          have V2_d_0_2_4 := Lib.hid (V2_d_0_2.out.below hx)
          clear hys hx
          refine ⟨S_d_0_2_4.out, ?_⟩
          try simp only [Act.put, List.setIfInBounds_toArray, List.set_cons_succ, List.set_cons_zero]
          refine Agg.held_ready [5] (by kernel_rfl) (by simp) ?_
          refine Agg.held_cons rfl ?_ ?_
          · refine Agg.step_appendS (E := EBu) (base := w2.heap.size) rfl _ _ rfl ys rfl rfl [b] V2_d_0_2_4.out Y_d_0_2_4.out (by simp; omega) (by decide) K_d_0_2_4.out.size ?_
            intro v5 w_d_0_2_4_5 ho hp
            have K_d_0_2_4_5 := Lib.hid (K_d_0_2_4.out.trans (hp.below w2.heap.size (Nat.le_refl _) K_d_0_2_4.out.size))
            have S_d_0_2_4_5 := Lib.hid (HLB.out w_d_0_2_4_5 K_d_0_2_4_5.out)
            have Z_d_0_2_4_5 := Lib.hid (show SliceOf EBu w_d_0_2_4_5 v5 (l ++ [b]) by have := ho.slice; rwa [List.nil_append] at this)
            clear ho hp
            refine ⟨S_d_0_2_4_5.out, ?_⟩
            try simp only [Act.put, List.setIfInBounds_toArray, List.set_cons_succ, List.set_cons_zero]
            refine Agg.held_ready [6] (by kernel_rfl) (by simp) ?_
            refine Agg.held_cons rfl ?_ ?_
            · refine Agg.step_call rfl 4 _ _ rfl #[v5, .int .i64 2000] (by simp only [List.map_toArray, List.map_cons, List.map_nil]; rfl) (fun W => HE4.out _ W) ?_
              refine (builtsOfN_any v5 (l ++ [b]) (by simp; omega) HNL.out w_d_0_2_4_5 ⟨Z_d_0_2_4_5.out, HIL.out _ K_d_0_2_4_5.out⟩).mono ?_
              rintro e w_d_0_2_4_5_6 ⟨n, rfl, hn, hx⟩
              have K_d_0_2_4_5_6 := Lib.hid (Agg.belowThen K_d_0_2_4_5.out (Nat.le_refl _) hx)
              have S_d_0_2_4_5_6 := Lib.hid (HLB.out w_d_0_2_4_5_6 K_d_0_2_4_5_6.out)
              have HN := Lib.hid hn
              clear hn hx
              refine ⟨_, rfl, S_d_0_2_4_5_6.out, ?_⟩
              try simp only [Act.put, List.setIfInBounds_toArray, List.set_cons_succ, List.set_cons_zero]
              obtain ⟨bn, hbn⟩ : ∃ e, decide ((2000 : Int) < (n : Int)) = e := ⟨_, rfl⟩
              refine Agg.held_take 7 (.bool bn) rfl (by kernel_rfl) (fun _ _ _ h => h) rfl (fun W _ => by rw [← hbn]; kernel_rfl) (by assumption) ?_
              try simp only [Act.put, List.setIfInBounds_toArray, List.set_cons_succ, List.set_cons_zero]
              refine Agg.held_take 8 (.bool bn) rfl (by kernel_rfl) (fun _ _ _ h => h) rfl (fun W _ => by kernel_rfl) (by assumption) ?_
              try simp only [Act.put, List.setIfInBounds_toArray, List.set_cons_succ, List.set_cons_zero]
              have HBN := Lib.hid (show bn = false → l.length + 1 ≤ 2000 from fun h => by rw [h] at hbn; have h1 := of_decide_eq_false hbn; have h2 := HN.out (by omega); rw [List.length_append] at h2; simp at h2; omega)
              clear hbn
              cases bn with
              | true =>
                refine Agg.held_skip 9 rfl (by kernel_rfl) (fun _ _ _ h => h) rfl (by assumption) ?_
                try simp only [Act.put, List.setIfInBounds_toArray, List.set_cons_succ, List.set_cons_zero]
                refine Agg.held_skip 10 rfl (by kernel_rfl) (fun _ _ _ h => h) rfl (by assumption) ?_
                try simp only [Act.put, List.setIfInBounds_toArray, List.set_cons_succ, List.set_cons_zero]
                refine Agg.held_skip 11 rfl (by kernel_rfl) (fun _ _ _ h => h) rfl (by assumption) ?_
                try simp only [Act.put, List.setIfInBounds_toArray, List.set_cons_succ, List.set_cons_zero]
                refine Agg.held_take 12 (.bool true) rfl (by kernel_rfl) (fun _ _ _ h => h) rfl (fun W _ => by kernel_rfl) (by assumption) ?_
                try simp only [Act.put, List.setIfInBounds_toArray, List.set_cons_succ, List.set_cons_zero]
                refine Agg.held_end (by kernel_rfl) ?_
                refine ⟨true, HBN.out, K_d_0_2_4_5_6.out, ?_⟩
                simp only [Agg.ExPut, Act.put, List.setIfInBounds_toArray, List.set_cons_succ, List.set_cons_zero]
                exact ⟨_, _, _, _, _, _, _, _, _, _, _, _, rfl⟩
              | false =>
                refine Agg.held_take 9 (u) rfl (by kernel_rfl) (fun _ _ _ h => h) rfl (fun W _ => by kernel_rfl) (by assumption) ?_
                try simp only [Act.put, List.setIfInBounds_toArray, List.set_cons_succ, List.set_cons_zero]
                refine Agg.held_ready [10] (by kernel_rfl) (by simp) ?_
                refine Agg.held_cons rfl ?_ ?_
                · refine Agg.stepw_call rfl 5 _ _ rfl #[u, .int .i64 2000] (by simp only [List.map_toArray, List.map_cons, List.map_nil]; rfl) (fun W => HE5.out _ W) ?_
                  refine (pathsOf_any u held hh HHN.out w_d_0_2_4_5_6 (HTW.out _ K_d_0_2_4_5_6.out)).mono ?_
                  rintro e w_d_0_2_4_5_6_10 ⟨m, rfl, hx⟩
                  have K_d_0_2_4_5_6_10 := Lib.hid (Agg.belowThen K_d_0_2_4_5_6.out (Nat.le_refl _) hx)
                  have S_d_0_2_4_5_6_10 := Lib.hid (HLB.out w_d_0_2_4_5_6_10 K_d_0_2_4_5_6_10.out)
                  clear hx
                  refine ⟨_, rfl, S_d_0_2_4_5_6_10.out, ?_⟩
                  try simp only [Act.put, List.setIfInBounds_toArray, List.set_cons_succ, List.set_cons_zero]
                  obtain ⟨bm, hbm⟩ : ∃ e, decide ((2000 : Int) < (m : Int)) = e := ⟨_, rfl⟩
                  refine Agg.held_take 11 (.bool bm) rfl (by kernel_rfl) (fun _ _ _ h => h) rfl (fun W _ => by rw [← hbm]; kernel_rfl) (by assumption) ?_
                  try simp only [Act.put, List.setIfInBounds_toArray, List.set_cons_succ, List.set_cons_zero]
                  refine Agg.held_take 12 (.bool bm) rfl (by kernel_rfl) (fun _ _ _ h => h) rfl (fun W _ => by kernel_rfl) (by assumption) ?_
                  try simp only [Act.put, List.setIfInBounds_toArray, List.set_cons_succ, List.set_cons_zero]
                  refine Agg.held_end (by kernel_rfl) ?_
                  refine ⟨bm, fun _ => HBN.out rfl, K_d_0_2_4_5_6_10.out, ?_⟩
                  simp only [Agg.ExPut, Act.put, List.setIfInBounds_toArray, List.set_cons_succ, List.set_cons_zero]
                  exact ⟨_, _, _, _, _, _, _, _, _, _, _, _, rfl⟩
                exact AllReadyH.nil
            exact AllReadyH.nil
          exact AllReadyH.nil
        exact AllReadyH.nil
      refine Agg.held_cons rfl ?_ ?_
      · refine Agg.step_slice1 (E := EBu) rfl _ rfl b rfl ?_
        intro ys w_d_0_4 hys hx
        have K_d_0_4 := Lib.hid (Agg.belowThen K_d_0.out (Nat.le_refl _) hx)
        have S_d_0_4 := Lib.hid (HLB.out w_d_0_4 K_d_0_4.out)
        have Y_d_0_4 := Lib.hid hys.slice
        have R4 := Lib.hid (own_inG hys)
        have V0_d_0_4 := Lib.hid (V0_d_0.out.below hx)
        have HNE := Lib.hid (fun k (h1 : ys.ownBlock = some k) (h2 : v0.ownBlock = some k) => (show False by have := R4.out k h1; have := R0.out k h2; omega))
        clear hys hx
        refine ⟨S_d_0_4.out, ?_⟩
        try simp only [Act.put, List.setIfInBounds_toArray, List.set_cons_succ, List.set_cons_zero]
        refine Agg.held_ready [2] (by kernel_rfl) (by simp) ?_
        refine Agg.held_cons rfl ?_ ?_
        · refine Agg.step_appendS (E := EBu) (base := w2.heap.size) rfl _ _ rfl v rfl rfl l V0_d_0_4.out (HSW.out _ K_d_0_4.out).row (by simp; omega) (by decide) K_d_0_4.out.size ?_
          intro v2 w_d_0_4_2 ho hp
          have K_d_0_4_2 := Lib.hid (K_d_0_4.out.trans (hp.below w2.heap.size (Nat.le_refl _) K_d_0_4.out.size))
          have S_d_0_4_2 := Lib.hid (HLB.out w_d_0_4_2 K_d_0_4_2.out)
          have V2_d_0_4_2 := Lib.hid ho
          have Y_d_0_4_2 := Lib.hid (Y_d_0_4.out.pushed hp fun k h1 h2 => HNE.out k h1 h2)
          clear ho hp
          refine ⟨S_d_0_4_2.out, ?_⟩
          try simp only [Act.put, List.setIfInBounds_toArray, List.set_cons_succ, List.set_cons_zero]
          refine Agg.held_ready [5] (by kernel_rfl) (by simp) ?_
          refine Agg.held_cons rfl ?_ ?_
          · refine Agg.step_appendS (E := EBu) (base := w2.heap.size) rfl _ _ rfl ys rfl rfl [b] V2_d_0_4_2.out Y_d_0_4_2.out (by simp; omega) (by decide) K_d_0_4_2.out.size ?_
            intro v5 w_d_0_4_2_5 ho hp
            have K_d_0_4_2_5 := Lib.hid (K_d_0_4_2.out.trans (hp.below w2.heap.size (Nat.le_refl _) K_d_0_4_2.out.size))
            have S_d_0_4_2_5 := Lib.hid (HLB.out w_d_0_4_2_5 K_d_0_4_2_5.out)
            have Z_d_0_4_2_5 := Lib.hid (show SliceOf EBu w_d_0_4_2_5 v5 (l ++ [b]) by have := ho.slice; rwa [List.nil_append] at this)
            clear ho hp
            refine ⟨S_d_0_4_2_5.out, ?_⟩
            try simp only [Act.put, List.setIfInBounds_toArray, List.set_cons_succ, List.set_cons_zero]
            refine Agg.held_ready [6] (by kernel_rfl) (by simp) ?_
            refine Agg.held_cons rfl ?_ ?_
            · refine Agg.step_call rfl 4 _ _ rfl #[v5, .int .i64 2000] (by simp only [List.map_toArray, List.map_cons, List.map_nil]; rfl) (fun W => HE4.out _ W) ?_
              refine (builtsOfN_any v5 (l ++ [b]) (by simp; omega) HNL.out w_d_0_4_2_5 ⟨Z_d_0_4_2_5.out, HIL.out _ K_d_0_4_2_5.out⟩).mono ?_
              rintro e w_d_0_4_2_5_6 ⟨n, rfl, hn, hx⟩
              have K_d_0_4_2_5_6 := Lib.hid (Agg.belowThen K_d_0_4_2_5.out (Nat.le_refl _) hx)
              have S_d_0_4_2_5_6 := Lib.hid (HLB.out w_d_0_4_2_5_6 K_d_0_4_2_5_6.out)
              have HN := Lib.hid hn
              clear hn hx
              refine ⟨_, rfl, S_d_0_4_2_5_6.out, ?_⟩
              try simp only [Act.put, List.setIfInBounds_toArray, List.set_cons_succ, List.set_cons_zero]
              obtain ⟨bn, hbn⟩ : ∃ e, decide ((2000 : Int) < (n : Int)) = e := ⟨_, rfl⟩
              refine Agg.held_take 7 (.bool bn) rfl (by kernel_rfl) (fun _ _ _ h => h) rfl (fun W _ => by rw [← hbn]; kernel_rfl) (by assumption) ?_
              try simp only [Act.put, List.setIfInBounds_toArray, List.set_cons_succ, List.set_cons_zero]
              refine Agg.held_take 8 (.bool bn) rfl (by kernel_rfl) (fun _ _ _ h => h) rfl (fun W _ => by kernel_rfl) (by assumption) ?_
              try simp only [Act.put, List.setIfInBounds_toArray, List.set_cons_succ, List.set_cons_zero]
              have HBN := Lib.hid (show bn = false → l.length + 1 ≤ 2000 from fun h => by rw [h] at hbn; have h1 := of_decide_eq_false hbn; have h2 := HN.out (by omega); rw [List.length_append] at h2; simp at h2; omega)
              clear hbn
              cases bn with
              | true =>
                refine Agg.held_skip 9 rfl (by kernel_rfl) (fun _ _ _ h => h) rfl (by assumption) ?_
                try simp only [Act.put, List.setIfInBounds_toArray, List.set_cons_succ, List.set_cons_zero]
                refine Agg.held_skip 10 rfl (by kernel_rfl) (fun _ _ _ h => h) rfl (by assumption) ?_
                try simp only [Act.put, List.setIfInBounds_toArray, List.set_cons_succ, List.set_cons_zero]
                refine Agg.held_skip 11 rfl (by kernel_rfl) (fun _ _ _ h => h) rfl (by assumption) ?_
                try simp only [Act.put, List.setIfInBounds_toArray, List.set_cons_succ, List.set_cons_zero]
                refine Agg.held_take 12 (.bool true) rfl (by kernel_rfl) (fun _ _ _ h => h) rfl (fun W _ => by kernel_rfl) (by assumption) ?_
                try simp only [Act.put, List.setIfInBounds_toArray, List.set_cons_succ, List.set_cons_zero]
                refine Agg.held_end (by kernel_rfl) ?_
                refine ⟨true, HBN.out, K_d_0_4_2_5_6.out, ?_⟩
                simp only [Agg.ExPut, Act.put, List.setIfInBounds_toArray, List.set_cons_succ, List.set_cons_zero]
                exact ⟨_, _, _, _, _, _, _, _, _, _, _, _, rfl⟩
              | false =>
                refine Agg.held_take 9 (u) rfl (by kernel_rfl) (fun _ _ _ h => h) rfl (fun W _ => by kernel_rfl) (by assumption) ?_
                try simp only [Act.put, List.setIfInBounds_toArray, List.set_cons_succ, List.set_cons_zero]
                refine Agg.held_ready [10] (by kernel_rfl) (by simp) ?_
                refine Agg.held_cons rfl ?_ ?_
                · refine Agg.stepw_call rfl 5 _ _ rfl #[u, .int .i64 2000] (by simp only [List.map_toArray, List.map_cons, List.map_nil]; rfl) (fun W => HE5.out _ W) ?_
                  refine (pathsOf_any u held hh HHN.out w_d_0_4_2_5_6 (HTW.out _ K_d_0_4_2_5_6.out)).mono ?_
                  rintro e w_d_0_4_2_5_6_10 ⟨m, rfl, hx⟩
                  have K_d_0_4_2_5_6_10 := Lib.hid (Agg.belowThen K_d_0_4_2_5_6.out (Nat.le_refl _) hx)
                  have S_d_0_4_2_5_6_10 := Lib.hid (HLB.out w_d_0_4_2_5_6_10 K_d_0_4_2_5_6_10.out)
                  clear hx
                  refine ⟨_, rfl, S_d_0_4_2_5_6_10.out, ?_⟩
                  try simp only [Act.put, List.setIfInBounds_toArray, List.set_cons_succ, List.set_cons_zero]
                  obtain ⟨bm, hbm⟩ : ∃ e, decide ((2000 : Int) < (m : Int)) = e := ⟨_, rfl⟩
                  refine Agg.held_take 11 (.bool bm) rfl (by kernel_rfl) (fun _ _ _ h => h) rfl (fun W _ => by rw [← hbm]; kernel_rfl) (by assumption) ?_
                  try simp only [Act.put, List.setIfInBounds_toArray, List.set_cons_succ, List.set_cons_zero]
                  refine Agg.held_take 12 (.bool bm) rfl (by kernel_rfl) (fun _ _ _ h => h) rfl (fun W _ => by kernel_rfl) (by assumption) ?_
                  try simp only [Act.put, List.setIfInBounds_toArray, List.set_cons_succ, List.set_cons_zero]
                  refine Agg.held_end (by kernel_rfl) ?_
                  refine ⟨bm, fun _ => HBN.out rfl, K_d_0_4_2_5_6_10.out, ?_⟩
                  simp only [Agg.ExPut, Act.put, List.setIfInBounds_toArray, List.set_cons_succ, List.set_cons_zero]
                  exact ⟨_, _, _, _, _, _, _, _, _, _, _, _, rfl⟩
                exact AllReadyH.nil
            exact AllReadyH.nil
          exact AllReadyH.nil
        exact AllReadyH.nil
      exact AllReadyH.nil
    refine Agg.held_cons rfl ?_ ?_
    · refine Agg.step_slice1 (E := EBu) rfl _ rfl b rfl ?_
      intro ys w_d_4 hys hx
      have K_d_4 := Lib.hid (Agg.belowThen K_d.out (Nat.le_refl _) hx)
      have S_d_4 := Lib.hid (HLB.out w_d_4 K_d_4.out)
      have Y_d_4 := Lib.hid hys.slice
      have R4 := Lib.hid (own_inG hys)
      clear hys hx
      refine ⟨S_d_4.out, ?_⟩
      try simp only [Act.put, List.setIfInBounds_toArray, List.set_cons_succ, List.set_cons_zero]
      refine Agg.held_ready [0] (by kernel_rfl) (by simp) ?_
      refine Agg.held_cons rfl ?_ ?_
      · refine Agg.step_slice0 (base := w2.heap.size) EBu rfl rfl K_d_4.out.size ?_
        intro v0 w_d_4_0 ho hx hr0
        have K_d_4_0 := Lib.hid (Agg.belowThen K_d_4.out (Nat.le_refl _) hx)
        have S_d_4_0 := Lib.hid (HLB.out w_d_4_0 K_d_4_0.out)
        have V0_d_4_0 := Lib.hid ho
        have R0 := Lib.hid hr0
        have Y_d_4_0 := Lib.hid (Y_d_4.out.below hx)
        have HNE := Lib.hid (fun k (h1 : ys.ownBlock = some k) (h2 : v0.ownBlock = some k) => (show False by have := R4.out k h1; have := hr0 k h2; omega))
        clear ho hx hr0
        refine ⟨S_d_4_0.out, ?_⟩
        try simp only [Act.put, List.setIfInBounds_toArray, List.set_cons_succ, List.set_cons_zero]
        refine Agg.held_ready [2] (by kernel_rfl) (by simp) ?_
        refine Agg.held_cons rfl ?_ ?_
        · refine Agg.step_appendS (E := EBu) (base := w2.heap.size) rfl _ _ rfl v rfl rfl l V0_d_4_0.out (HSW.out _ K_d_4_0.out).row (by simp; omega) (by decide) K_d_4_0.out.size ?_
          intro v2 w_d_4_0_2 ho hp
          have K_d_4_0_2 := Lib.hid (K_d_4_0.out.trans (hp.below w2.heap.size (Nat.le_refl _) K_d_4_0.out.size))
          have S_d_4_0_2 := Lib.hid (HLB.out w_d_4_0_2 K_d_4_0_2.out)
          have V2_d_4_0_2 := Lib.hid ho
          have Y_d_4_0_2 := Lib.hid (Y_d_4_0.out.pushed hp fun k h1 h2 => HNE.out k h1 h2)
          clear ho hp
          refine ⟨S_d_4_0_2.out, ?_⟩
          try simp only [Act.put, List.setIfInBounds_toArray, List.set_cons_succ, List.set_cons_zero]
          refine Agg.held_ready [5] (by kernel_rfl) (by simp) ?_
          refine Agg.held_cons rfl ?_ ?_
          · refine Agg.step_appendS (E := EBu) (base := w2.heap.size) rfl _ _ rfl ys rfl rfl [b] V2_d_4_0_2.out Y_d_4_0_2.out (by simp; omega) (by decide) K_d_4_0_2.out.size ?_
            intro v5 w_d_4_0_2_5 ho hp
            have K_d_4_0_2_5 := Lib.hid (K_d_4_0_2.out.trans (hp.below w2.heap.size (Nat.le_refl _) K_d_4_0_2.out.size))
            have S_d_4_0_2_5 := Lib.hid (HLB.out w_d_4_0_2_5 K_d_4_0_2_5.out)
            have Z_d_4_0_2_5 := Lib.hid (show SliceOf EBu w_d_4_0_2_5 v5 (l ++ [b]) by have := ho.slice; rwa [List.nil_append] at this)
            clear ho hp
            refine ⟨S_d_4_0_2_5.out, ?_⟩
            try simp only [Act.put, List.setIfInBounds_toArray, List.set_cons_succ, List.set_cons_zero]
            refine Agg.held_ready [6] (by kernel_rfl) (by simp) ?_
            refine Agg.held_cons rfl ?_ ?_
            · refine Agg.step_call rfl 4 _ _ rfl #[v5, .int .i64 2000] (by simp only [List.map_toArray, List.map_cons, List.map_nil]; rfl) (fun W => HE4.out _ W) ?_
              refine (builtsOfN_any v5 (l ++ [b]) (by simp; omega) HNL.out w_d_4_0_2_5 ⟨Z_d_4_0_2_5.out, HIL.out _ K_d_4_0_2_5.out⟩).mono ?_
              rintro e w_d_4_0_2_5_6 ⟨n, rfl, hn, hx⟩
              have K_d_4_0_2_5_6 := Lib.hid (Agg.belowThen K_d_4_0_2_5.out (Nat.le_refl _) hx)
              have S_d_4_0_2_5_6 := Lib.hid (HLB.out w_d_4_0_2_5_6 K_d_4_0_2_5_6.out)
              have HN := Lib.hid hn
              clear hn hx
              refine ⟨_, rfl, S_d_4_0_2_5_6.out, ?_⟩
              try simp only [Act.put, List.setIfInBounds_toArray, List.set_cons_succ, List.set_cons_zero]
              obtain ⟨bn, hbn⟩ : ∃ e, decide ((2000 : Int) < (n : Int)) = e := ⟨_, rfl⟩
              refine Agg.held_take 7 (.bool bn) rfl (by kernel_rfl) (fun _ _ _ h => h) rfl (fun W _ => by rw [← hbn]; kernel_rfl) (by assumption) ?_
              try simp only [Act.put, List.setIfInBounds_toArray, List.set_cons_succ, List.set_cons_zero]
              refine Agg.held_take 8 (.bool bn) rfl (by kernel_rfl) (fun _ _ _ h => h) rfl (fun W _ => by kernel_rfl) (by assumption) ?_
              try simp only [Act.put, List.setIfInBounds_toArray, List.set_cons_succ, List.set_cons_zero]
              have HBN := Lib.hid (show bn = false → l.length + 1 ≤ 2000 from fun h => by rw [h] at hbn; have h1 := of_decide_eq_false hbn; have h2 := HN.out (by omega); rw [List.length_append] at h2; simp at h2; omega)
              clear hbn
              cases bn with
              | true =>
                refine Agg.held_skip 9 rfl (by kernel_rfl) (fun _ _ _ h => h) rfl (by assumption) ?_
                try simp only [Act.put, List.setIfInBounds_toArray, List.set_cons_succ, List.set_cons_zero]
                refine Agg.held_skip 10 rfl (by kernel_rfl) (fun _ _ _ h => h) rfl (by assumption) ?_
                try simp only [Act.put, List.setIfInBounds_toArray, List.set_cons_succ, List.set_cons_zero]
                refine Agg.held_skip 11 rfl (by kernel_rfl) (fun _ _ _ h => h) rfl (by assumption) ?_
                try simp only [Act.put, List.setIfInBounds_toArray, List.set_cons_succ, List.set_cons_zero]
                refine Agg.held_take 12 (.bool true) rfl (by kernel_rfl) (fun _ _ _ h => h) rfl (fun W _ => by kernel_rfl) (by assumption) ?_
                try simp only [Act.put, List.setIfInBounds_toArray, List.set_cons_succ, List.set_cons_zero]
                refine Agg.held_end (by kernel_rfl) ?_
                refine ⟨true, HBN.out, K_d_4_0_2_5_6.out, ?_⟩
                simp only [Agg.ExPut, Act.put, List.setIfInBounds_toArray, List.set_cons_succ, List.set_cons_zero]
                exact ⟨_, _, _, _, _, _, _, _, _, _, _, _, rfl⟩
              | false =>
                refine Agg.held_take 9 (u) rfl (by kernel_rfl) (fun _ _ _ h => h) rfl (fun W _ => by kernel_rfl) (by assumption) ?_
                try simp only [Act.put, List.setIfInBounds_toArray, List.set_cons_succ, List.set_cons_zero]
                refine Agg.held_ready [10] (by kernel_rfl) (by simp) ?_
                refine Agg.held_cons rfl ?_ ?_
                · refine Agg.stepw_call rfl 5 _ _ rfl #[u, .int .i64 2000] (by simp only [List.map_toArray, List.map_cons, List.map_nil]; rfl) (fun W => HE5.out _ W) ?_
                  refine (pathsOf_any u held hh HHN.out w_d_4_0_2_5_6 (HTW.out _ K_d_4_0_2_5_6.out)).mono ?_
                  rintro e w_d_4_0_2_5_6_10 ⟨m, rfl, hx⟩
                  have K_d_4_0_2_5_6_10 := Lib.hid (Agg.belowThen K_d_4_0_2_5_6.out (Nat.le_refl _) hx)
                  have S_d_4_0_2_5_6_10 := Lib.hid (HLB.out w_d_4_0_2_5_6_10 K_d_4_0_2_5_6_10.out)
                  clear hx
                  refine ⟨_, rfl, S_d_4_0_2_5_6_10.out, ?_⟩
                  try simp only [Act.put, List.setIfInBounds_toArray, List.set_cons_succ, List.set_cons_zero]
                  obtain ⟨bm, hbm⟩ : ∃ e, decide ((2000 : Int) < (m : Int)) = e := ⟨_, rfl⟩
                  refine Agg.held_take 11 (.bool bm) rfl (by kernel_rfl) (fun _ _ _ h => h) rfl (fun W _ => by rw [← hbm]; kernel_rfl) (by assumption) ?_
                  try simp only [Act.put, List.setIfInBounds_toArray, List.set_cons_succ, List.set_cons_zero]
                  refine Agg.held_take 12 (.bool bm) rfl (by kernel_rfl) (fun _ _ _ h => h) rfl (fun W _ => by kernel_rfl) (by assumption) ?_
                  try simp only [Act.put, List.setIfInBounds_toArray, List.set_cons_succ, List.set_cons_zero]
                  refine Agg.held_end (by kernel_rfl) ?_
                  refine ⟨bm, fun _ => HBN.out rfl, K_d_4_0_2_5_6_10.out, ?_⟩
                  simp only [Agg.ExPut, Act.put, List.setIfInBounds_toArray, List.set_cons_succ, List.set_cons_zero]
                  exact ⟨_, _, _, _, _, _, _, _, _, _, _, _, rfl⟩
                exact AllReadyH.nil
            exact AllReadyH.nil
          exact AllReadyH.nil
        exact AllReadyH.nil
      exact AllReadyH.nil
    exact AllReadyH.nil
  rintro a' wP ⟨bb, hlen, hxP, hput⟩
  simp only [Agg.ExPut] at hput
  obtain ⟨x22, x23, x24, x25, x26, x27, x28, x29, x30, x31, x32, x33, rfl⟩ := hput
  try simp only [Act.put, List.setIfInBounds_toArray, List.set_cons_succ, List.set_cons_zero]
  have HXP := Lib.hid (Agg.belowThen HX2.out (Nat.le_refl _) hxP)
  have HBP := Lib.hid (HB2.out.below hxP)
  have HHP := Lib.hid (HH2.out.below hxP)
  clear HLB HSW HTW HIL
  cases bb with
  | true =>
    go_wp2_with fail
    refine (awake22_any wP).mono ?_
    rintro e w3 ⟨rfl, hx3⟩
    go_wp2_with fail
    go_ret
    exact ⟨rfl, Agg.belowThen HXP.out (Nat.le_refl _) hx3⟩
  | false =>
  have hl2 : l.length + 1 ≤ 2000 := hlen rfl
  clear hlen hxP
  have HLB3 := Lib.hid (fun W (k : Below wP.heap.size wP W) => (BuG.of_blk (HBP.out.below k)).all)
  have HSP := Lib.hid (fun W (k : Below wP.heap.size wP W) => HS.out.below (Agg.belowThen HXP.out (Nat.le_refl _) k))
  have HIP := Lib.hid (fun W (k : Below wP.heap.size wP W) => (HB.out.below (Agg.belowThen HXP.out (Nat.le_refl _) k) : InsAt W b))
  have HTP := Lib.hid (fun W (k : Below wP.heap.size wP W) => (SliceOf.below HT.out (Agg.belowThen HXP.out (Nat.le_refl _) k) : ElemsAt W u held))
  go_wp2_with fail
  try simp only [List.append_eq, List.cons_append, List.nil_append]
  try simp only [Act.put, List.setIfInBounds_toArray, List.set_cons_succ, List.set_cons_zero]
  refine Agg.wp_cutR (fun a a' w' => ∃ (v9 : Value) (lv : List BuV) (iv : IV) (up : Value) (gx : Nat), RMid wP w' l b held v9 lv iv up gx ∧ Agg.ExPut [36, 37, 38, 39, 40, 41] (((a.put (some 9) v9).put (some 10) (.pointer (some ⟨gx, 0, none⟩))).put (some 11) up) a') ?_ ?_
  · obtain ⟨w_d, hwd⟩ : ∃ W, W = wP.drew := ⟨_, rfl⟩
    have hd : Below wP.heap.size wP w_d := by rw [hwd]; exact (Below.refl _ _).drew
    have K_d := Lib.hid hd
    have S_d := Lib.hid (HLB3.out w_d hd)
    refine wp_region_held_drew (S := fun W => LoadsL Tryz.prog W 29 (some ⟨g5, 0, none⟩) (.agg (bC b))) (by kernel_rfl) (by rw [← hwd]; exact S_d.out) (fun hHeld => ?_)
    rw [← hwd] at hHeld ⊢
    clear hwd hd hHeld
    refine Agg.held_take 0 (v) rfl (by kernel_rfl) (fun _ _ _ h => h) rfl (fun W _ => by kernel_rfl) (by assumption) ?_
    try simp only [Act.put, List.setIfInBounds_toArray, List.set_cons_succ, List.set_cons_zero]
    refine Agg.held_take 2 (.agg (bC b)) rfl (by kernel_rfl) (fun _ _ _ h => h) rfl (fun W hS => exec_loadB rfl rfl hS.now) (by assumption) ?_
    try simp only [Act.put, List.setIfInBounds_toArray, List.set_cons_succ, List.set_cons_zero]
    refine Agg.held_take 4 (u) rfl (by kernel_rfl) (fun _ _ _ h => h) rfl (fun W _ => by kernel_rfl) (by assumption) ?_
    try simp only [Act.put, List.setIfInBounds_toArray, List.set_cons_succ, List.set_cons_zero]
    refine Agg.held_ready [1, 6] (by kernel_rfl) (by simp) ?_
    refine Agg.held_cons rfl ?_ ?_
    · refine Agg.step_call rfl 7 _ _ rfl #[v] (by simp only [List.map_toArray, List.map_cons, List.map_nil]; rfl) (fun W => HE7.out _ W) ?_
      refine (lentBuilts_any v l (by omega) HNI.out w_d (HSP.out _ K_d.out)).mono ?_
      rintro e w_d_1 ⟨v9, lv, rfl, hl9, hm9, hi9, hx⟩
      have K_d_1 := Lib.hid (Agg.belowThen K_d.out (Nat.le_refl _) hx)
      have S_d_1 := Lib.hid (HLB3.out w_d_1 K_d_1.out)
      have z_d_1 := hx.size
      have L_d_1 := Lib.hid (hl9.lower K_d.out.size)
      have N_d_1 := Lib.hid (fun x hx2 => (hi9 x hx2).lower K_d.out.size)
      have HM := Lib.hid hm9
      have R9 := Lib.hid (hl9.lt (by rw [marksG_length]; omega))
      clear hl9 hm9 hi9 hx
      refine ⟨_, rfl, S_d_1.out, ?_⟩
      try simp only [Act.put, List.setIfInBounds_toArray, List.set_cons_succ, List.set_cons_zero]
      refine Agg.held_ready [3, 6] (by kernel_rfl) (by simp) ?_
      refine Agg.held_cons rfl ?_ ?_
      · refine Agg.step_call rfl 8 _ _ rfl #[.agg (bC b)] (by simp only [List.map_toArray, List.map_cons, List.map_nil]; rfl) (fun W => HE8.out _ W) ?_
        refine (lentBuilt_any b w_d_1 HNB.out.1 (HIP.out _ K_d_1.out)).mono ?_
        rintro e w_d_1_3 ⟨iv, rfl, hi, hx⟩
        have K_d_1_3 := Lib.hid (Agg.belowThen K_d_1.out (Nat.le_refl _) hx)
        have S_d_1_3 := Lib.hid (HLB3.out w_d_1_3 K_d_1_3.out)
        have z_d_1_3 := hx.size
        have L_d_1_3 := Lib.hid (L_d_1.out.below hx)
        have N_d_1_3 := Lib.hid (fun x hx2 => (N_d_1.out x hx2).below hx)
        have O_d_1_3 := Lib.hid (hi.lower K_d_1.out.size)
        clear hi hx
        refine ⟨_, rfl, S_d_1_3.out, ?_⟩
        try simp only [Act.put, List.setIfInBounds_toArray, List.set_cons_succ, List.set_cons_zero]
        refine Agg.held_ready [5, 6] (by kernel_rfl) (by simp) ?_
        refine Agg.held_cons rfl ?_ ?_
        · refine Agg.step_call rfl 9 _ _ rfl #[u] (by simp only [List.map_toArray, List.map_cons, List.map_nil]; rfl) (fun W => HE9.out _ W) ?_
          refine (lentPaths_any u held hh w_d_1_3 (HTP.out _ K_d_1_3.out)).mono ?_
          rintro e w_d_1_3_5 ⟨up, rfl, hx, hl9⟩
          have K_d_1_3_5 := Lib.hid (Agg.belowThen K_d_1_3.out (Nat.le_refl _) hx)
          have S_d_1_3_5 := Lib.hid (HLB3.out w_d_1_3_5 K_d_1_3_5.out)
          have z_d_1_3_5 := hx.size
          have L_d_1_3_5 := Lib.hid (L_d_1_3.out.below hx)
          have N_d_1_3_5 := Lib.hid (fun x hx2 => (N_d_1_3.out x hx2).below hx)
          have O_d_1_3_5 := Lib.hid (O_d_1_3.out.below hx)
          have U_d_1_3_5 := Lib.hid (hl9.lower K_d_1_3.out.size)
          have RU := Lib.hid (hl9.lt (by rw [marksG_length]; omega))
          clear hl9 hx
          refine ⟨_, rfl, S_d_1_3_5.out, ?_⟩
          try simp only [Act.put, List.setIfInBounds_toArray, List.set_cons_succ, List.set_cons_zero]
          refine Agg.held_ready [6] (by kernel_rfl) (by simp) ?_
          refine Agg.held_cons rfl ?_ ?_
          · refine Agg.step_allocB rfl 29 rfl (bC (zB, none, 0, 0)) bC_zero ?_
            intro gx w_d_1_3_5_6 hb hx hg
            have K_d_1_3_5_6 := Lib.hid (Agg.belowThen K_d_1_3_5.out (Nat.le_refl _) hx)
            have S_d_1_3_5_6 := Lib.hid (HLB3.out w_d_1_3_5_6 K_d_1_3_5_6.out)
            have z_d_1_3_5_6 := hx.size
            have L_d_1_3_5_6 := Lib.hid (L_d_1_3_5.out.below hx)
            have N_d_1_3_5_6 := Lib.hid (fun x hx2 => (N_d_1_3_5.out x hx2).below hx)
            have O_d_1_3_5_6 := Lib.hid (O_d_1_3_5.out.below hx)
            have U_d_1_3_5_6 := Lib.hid (U_d_1_3_5.out.below hx)
            have G_d_1_3_5_6 := Lib.hid hb
            have HGX := Lib.hid (Nat.le_trans K_d_1_3_5.out.size hg)
            have RX := Lib.hid (show w_d_1_3_5.heap.size ≤ gx ∧ gx < w_d_1_3_5_6.heap.size from ⟨hg, hb.lt⟩)
            have HN9 := Lib.hid (fun k (h : v9.ownBlock = some k) (e : k = gx) => (show False by have := R9.out k h; have := RX.out; omega))
            have HNU := Lib.hid (fun k (h : up.ownBlock = some k) (e : k = gx) => (show False by have := RU.out k h; have := RX.out; omega))
            clear hb hx hg
            refine ⟨S_d_1_3_5_6.out, ?_⟩
            try simp only [Act.put, List.setIfInBounds_toArray, List.set_cons_succ, List.set_cons_zero]
            refine Agg.held_take 7 (v9) rfl (by kernel_rfl) (fun _ _ _ h => h) rfl (fun W _ => by kernel_rfl) (by assumption) ?_
            try simp only [Act.put, List.setIfInBounds_toArray, List.set_cons_succ, List.set_cons_zero]
            refine Agg.held_ready [8] (by kernel_rfl) (by simp) ?_
            refine Agg.held_cons rfl ?_ ?_
            · obtain ⟨w_d_1_3_5_6_8, hrun, hb, ho⟩ := buB_all G_d_1_3_5_6.out (b.1, iv)
              refine Agg.step_store rfl rfl 29 _ _ rfl (.pointer (some ⟨gx, 0, none⟩)) (.agg (bC (b.1, iv))) rfl rfl hrun ?_
              have K_d_1_3_5_6_8 := Lib.hid (K_d_1_3_5_6.out.trans (ho.below (B := wP.heap.size) K_d_1_3_5_6.out.size (fun i hi => by subst hi; exact HGX.out)))
              have S_d_1_3_5_6_8 := Lib.hid (HLB3.out w_d_1_3_5_6_8 K_d_1_3_5_6_8.out)
              have L_d_1_3_5_6_8 := Lib.hid (L_d_1_3_5_6.out.onlyB ho (fun k h e => HN9.out k h e))
              have N_d_1_3_5_6_8 := Lib.hid (fun x hx2 => (N_d_1_3_5_6.out x hx2).store G_d_1_3_5_6.out ho)
              have O_d_1_3_5_6_8 := Lib.hid (O_d_1_3_5_6.out.store G_d_1_3_5_6.out ho)
              have U_d_1_3_5_6_8 := Lib.hid (U_d_1_3_5_6.out.onlyB ho (fun k h e => HNU.out k h e))
              have G_d_1_3_5_6_8 := Lib.hid hb
              clear hrun hb ho
              refine ⟨S_d_1_3_5_6_8.out, ?_⟩
              try simp only [Act.put, List.setIfInBounds_toArray, List.set_cons_succ, List.set_cons_zero]
              refine Agg.held_take 9 (up) rfl (by kernel_rfl) (fun _ _ _ h => h) rfl (fun W _ => by kernel_rfl) (by assumption) ?_
              try simp only [Act.put, List.setIfInBounds_toArray, List.set_cons_succ, List.set_cons_zero]
              refine Agg.held_end (by kernel_rfl) ?_
              refine ⟨v9, lv, iv, up, gx, ⟨L_d_1_3_5_6_8.out, HM.out, N_d_1_3_5_6_8.out, O_d_1_3_5_6_8.out, U_d_1_3_5_6_8.out, G_d_1_3_5_6_8.out, K_d_1_3_5_6_8.out⟩, ?_⟩
              simp only [Agg.ExPut, Act.put, List.setIfInBounds_toArray, List.set_cons_succ, List.set_cons_zero]
              exact ⟨_, _, _, _, _, _, rfl⟩
            exact AllReadyH.nil
          exact AllReadyH.nil
        refine Agg.held_cons rfl ?_ ?_
        · refine Agg.step_allocB rfl 29 rfl (bC (zB, none, 0, 0)) bC_zero ?_
          intro gx w_d_1_3_6 hb hx hg
          have K_d_1_3_6 := Lib.hid (Agg.belowThen K_d_1_3.out (Nat.le_refl _) hx)
          have S_d_1_3_6 := Lib.hid (HLB3.out w_d_1_3_6 K_d_1_3_6.out)
          have z_d_1_3_6 := hx.size
          have L_d_1_3_6 := Lib.hid (L_d_1_3.out.below hx)
          have N_d_1_3_6 := Lib.hid (fun x hx2 => (N_d_1_3.out x hx2).below hx)
          have O_d_1_3_6 := Lib.hid (O_d_1_3.out.below hx)
          have G_d_1_3_6 := Lib.hid hb
          have HGX := Lib.hid (Nat.le_trans K_d_1_3.out.size hg)
          have RX := Lib.hid (show w_d_1_3.heap.size ≤ gx ∧ gx < w_d_1_3_6.heap.size from ⟨hg, hb.lt⟩)
          have HN9 := Lib.hid (fun k (h : v9.ownBlock = some k) (e : k = gx) => (show False by have := R9.out k h; have := RX.out; omega))
          clear hb hx hg
          refine ⟨S_d_1_3_6.out, ?_⟩
          try simp only [Act.put, List.setIfInBounds_toArray, List.set_cons_succ, List.set_cons_zero]
          refine Agg.held_ready [5] (by kernel_rfl) (by simp) ?_
          refine Agg.held_cons rfl ?_ ?_
          · refine Agg.step_call rfl 9 _ _ rfl #[u] (by simp only [List.map_toArray, List.map_cons, List.map_nil]; rfl) (fun W => HE9.out _ W) ?_
            refine (lentPaths_any u held hh w_d_1_3_6 (HTP.out _ K_d_1_3_6.out)).mono ?_
            rintro e w_d_1_3_6_5 ⟨up, rfl, hx, hl9⟩
            have K_d_1_3_6_5 := Lib.hid (Agg.belowThen K_d_1_3_6.out (Nat.le_refl _) hx)
            have S_d_1_3_6_5 := Lib.hid (HLB3.out w_d_1_3_6_5 K_d_1_3_6_5.out)
            have z_d_1_3_6_5 := hx.size
            have L_d_1_3_6_5 := Lib.hid (L_d_1_3_6.out.below hx)
            have N_d_1_3_6_5 := Lib.hid (fun x hx2 => (N_d_1_3_6.out x hx2).below hx)
            have O_d_1_3_6_5 := Lib.hid (O_d_1_3_6.out.below hx)
            have G_d_1_3_6_5 := Lib.hid (G_d_1_3_6.out.below hx)
            have U_d_1_3_6_5 := Lib.hid (hl9.lower K_d_1_3_6.out.size)
            have RU := Lib.hid (hl9.lt (by rw [marksG_length]; omega))
            have HNU := Lib.hid (fun k (h : up.ownBlock = some k) (e : k = gx) => (show False by have := RU.out k h; have := RX.out; omega))
            clear hl9 hx
            refine ⟨_, rfl, S_d_1_3_6_5.out, ?_⟩
            try simp only [Act.put, List.setIfInBounds_toArray, List.set_cons_succ, List.set_cons_zero]
            refine Agg.held_take 7 (v9) rfl (by kernel_rfl) (fun _ _ _ h => h) rfl (fun W _ => by kernel_rfl) (by assumption) ?_
            try simp only [Act.put, List.setIfInBounds_toArray, List.set_cons_succ, List.set_cons_zero]
            refine Agg.held_ready [8] (by kernel_rfl) (by simp) ?_
            refine Agg.held_cons rfl ?_ ?_
            · obtain ⟨w_d_1_3_6_5_8, hrun, hb, ho⟩ := buB_all G_d_1_3_6_5.out (b.1, iv)
              refine Agg.step_store rfl rfl 29 _ _ rfl (.pointer (some ⟨gx, 0, none⟩)) (.agg (bC (b.1, iv))) rfl rfl hrun ?_
              have K_d_1_3_6_5_8 := Lib.hid (K_d_1_3_6_5.out.trans (ho.below (B := wP.heap.size) K_d_1_3_6_5.out.size (fun i hi => by subst hi; exact HGX.out)))
              have S_d_1_3_6_5_8 := Lib.hid (HLB3.out w_d_1_3_6_5_8 K_d_1_3_6_5_8.out)
              have L_d_1_3_6_5_8 := Lib.hid (L_d_1_3_6_5.out.onlyB ho (fun k h e => HN9.out k h e))
              have N_d_1_3_6_5_8 := Lib.hid (fun x hx2 => (N_d_1_3_6_5.out x hx2).store G_d_1_3_6_5.out ho)
              have O_d_1_3_6_5_8 := Lib.hid (O_d_1_3_6_5.out.store G_d_1_3_6_5.out ho)
              have U_d_1_3_6_5_8 := Lib.hid (U_d_1_3_6_5.out.onlyB ho (fun k h e => HNU.out k h e))
              have G_d_1_3_6_5_8 := Lib.hid hb
              clear hrun hb ho
              refine ⟨S_d_1_3_6_5_8.out, ?_⟩
              try simp only [Act.put, List.setIfInBounds_toArray, List.set_cons_succ, List.set_cons_zero]
              refine Agg.held_take 9 (up) rfl (by kernel_rfl) (fun _ _ _ h => h) rfl (fun W _ => by kernel_rfl) (by assumption) ?_
              try simp only [Act.put, List.setIfInBounds_toArray, List.set_cons_succ, List.set_cons_zero]
              refine Agg.held_end (by kernel_rfl) ?_
              refine ⟨v9, lv, iv, up, gx, ⟨L_d_1_3_6_5_8.out, HM.out, N_d_1_3_6_5_8.out, O_d_1_3_6_5_8.out, U_d_1_3_6_5_8.out, G_d_1_3_6_5_8.out, K_d_1_3_6_5_8.out⟩, ?_⟩
              simp only [Agg.ExPut, Act.put, List.setIfInBounds_toArray, List.set_cons_succ, List.set_cons_zero]
              exact ⟨_, _, _, _, _, _, rfl⟩
            exact AllReadyH.nil
          exact AllReadyH.nil
        exact AllReadyH.nil
      refine Agg.held_cons rfl ?_ ?_
      · refine Agg.step_allocB rfl 29 rfl (bC (zB, none, 0, 0)) bC_zero ?_
        intro gx w_d_1_6 hb hx hg
        have K_d_1_6 := Lib.hid (Agg.belowThen K_d_1.out (Nat.le_refl _) hx)
        have S_d_1_6 := Lib.hid (HLB3.out w_d_1_6 K_d_1_6.out)
        have z_d_1_6 := hx.size
        have L_d_1_6 := Lib.hid (L_d_1.out.below hx)
        have N_d_1_6 := Lib.hid (fun x hx2 => (N_d_1.out x hx2).below hx)
        have G_d_1_6 := Lib.hid hb
        have HGX := Lib.hid (Nat.le_trans K_d_1.out.size hg)
        have RX := Lib.hid (show w_d_1.heap.size ≤ gx ∧ gx < w_d_1_6.heap.size from ⟨hg, hb.lt⟩)
        have HN9 := Lib.hid (fun k (h : v9.ownBlock = some k) (e : k = gx) => (show False by have := R9.out k h; have := RX.out; omega))
        clear hb hx hg
        refine ⟨S_d_1_6.out, ?_⟩
        try simp only [Act.put, List.setIfInBounds_toArray, List.set_cons_succ, List.set_cons_zero]
        refine Agg.held_ready [3] (by kernel_rfl) (by simp) ?_
        refine Agg.held_cons rfl ?_ ?_
        · refine Agg.step_call rfl 8 _ _ rfl #[.agg (bC b)] (by simp only [List.map_toArray, List.map_cons, List.map_nil]; rfl) (fun W => HE8.out _ W) ?_
          refine (lentBuilt_any b w_d_1_6 HNB.out.1 (HIP.out _ K_d_1_6.out)).mono ?_
          rintro e w_d_1_6_3 ⟨iv, rfl, hi, hx⟩
          have K_d_1_6_3 := Lib.hid (Agg.belowThen K_d_1_6.out (Nat.le_refl _) hx)
          have S_d_1_6_3 := Lib.hid (HLB3.out w_d_1_6_3 K_d_1_6_3.out)
          have z_d_1_6_3 := hx.size
          have L_d_1_6_3 := Lib.hid (L_d_1_6.out.below hx)
          have N_d_1_6_3 := Lib.hid (fun x hx2 => (N_d_1_6.out x hx2).below hx)
          have G_d_1_6_3 := Lib.hid (G_d_1_6.out.below hx)
          have O_d_1_6_3 := Lib.hid (hi.lower K_d_1_6.out.size)
          clear hi hx
          refine ⟨_, rfl, S_d_1_6_3.out, ?_⟩
          try simp only [Act.put, List.setIfInBounds_toArray, List.set_cons_succ, List.set_cons_zero]
          refine Agg.held_ready [5] (by kernel_rfl) (by simp) ?_
          refine Agg.held_cons rfl ?_ ?_
          · refine Agg.step_call rfl 9 _ _ rfl #[u] (by simp only [List.map_toArray, List.map_cons, List.map_nil]; rfl) (fun W => HE9.out _ W) ?_
            refine (lentPaths_any u held hh w_d_1_6_3 (HTP.out _ K_d_1_6_3.out)).mono ?_
            rintro e w_d_1_6_3_5 ⟨up, rfl, hx, hl9⟩
            have K_d_1_6_3_5 := Lib.hid (Agg.belowThen K_d_1_6_3.out (Nat.le_refl _) hx)
            have S_d_1_6_3_5 := Lib.hid (HLB3.out w_d_1_6_3_5 K_d_1_6_3_5.out)
            have z_d_1_6_3_5 := hx.size
            have L_d_1_6_3_5 := Lib.hid (L_d_1_6_3.out.below hx)
            have N_d_1_6_3_5 := Lib.hid (fun x hx2 => (N_d_1_6_3.out x hx2).below hx)
            have O_d_1_6_3_5 := Lib.hid (O_d_1_6_3.out.below hx)
            have G_d_1_6_3_5 := Lib.hid (G_d_1_6_3.out.below hx)
            have U_d_1_6_3_5 := Lib.hid (hl9.lower K_d_1_6_3.out.size)
            have RU := Lib.hid (hl9.lt (by rw [marksG_length]; omega))
            have HNU := Lib.hid (fun k (h : up.ownBlock = some k) (e : k = gx) => (show False by have := RU.out k h; have := RX.out; omega))
            clear hl9 hx
            refine ⟨_, rfl, S_d_1_6_3_5.out, ?_⟩
            try simp only [Act.put, List.setIfInBounds_toArray, List.set_cons_succ, List.set_cons_zero]
            refine Agg.held_take 7 (v9) rfl (by kernel_rfl) (fun _ _ _ h => h) rfl (fun W _ => by kernel_rfl) (by assumption) ?_
            try simp only [Act.put, List.setIfInBounds_toArray, List.set_cons_succ, List.set_cons_zero]
            refine Agg.held_ready [8] (by kernel_rfl) (by simp) ?_
            refine Agg.held_cons rfl ?_ ?_
            · obtain ⟨w_d_1_6_3_5_8, hrun, hb, ho⟩ := buB_all G_d_1_6_3_5.out (b.1, iv)
              refine Agg.step_store rfl rfl 29 _ _ rfl (.pointer (some ⟨gx, 0, none⟩)) (.agg (bC (b.1, iv))) rfl rfl hrun ?_
              have K_d_1_6_3_5_8 := Lib.hid (K_d_1_6_3_5.out.trans (ho.below (B := wP.heap.size) K_d_1_6_3_5.out.size (fun i hi => by subst hi; exact HGX.out)))
              have S_d_1_6_3_5_8 := Lib.hid (HLB3.out w_d_1_6_3_5_8 K_d_1_6_3_5_8.out)
              have L_d_1_6_3_5_8 := Lib.hid (L_d_1_6_3_5.out.onlyB ho (fun k h e => HN9.out k h e))
              have N_d_1_6_3_5_8 := Lib.hid (fun x hx2 => (N_d_1_6_3_5.out x hx2).store G_d_1_6_3_5.out ho)
              have O_d_1_6_3_5_8 := Lib.hid (O_d_1_6_3_5.out.store G_d_1_6_3_5.out ho)
              have U_d_1_6_3_5_8 := Lib.hid (U_d_1_6_3_5.out.onlyB ho (fun k h e => HNU.out k h e))
              have G_d_1_6_3_5_8 := Lib.hid hb
              clear hrun hb ho
              refine ⟨S_d_1_6_3_5_8.out, ?_⟩
              try simp only [Act.put, List.setIfInBounds_toArray, List.set_cons_succ, List.set_cons_zero]
              refine Agg.held_take 9 (up) rfl (by kernel_rfl) (fun _ _ _ h => h) rfl (fun W _ => by kernel_rfl) (by assumption) ?_
              try simp only [Act.put, List.setIfInBounds_toArray, List.set_cons_succ, List.set_cons_zero]
              refine Agg.held_end (by kernel_rfl) ?_
              refine ⟨v9, lv, iv, up, gx, ⟨L_d_1_6_3_5_8.out, HM.out, N_d_1_6_3_5_8.out, O_d_1_6_3_5_8.out, U_d_1_6_3_5_8.out, G_d_1_6_3_5_8.out, K_d_1_6_3_5_8.out⟩, ?_⟩
              simp only [Agg.ExPut, Act.put, List.setIfInBounds_toArray, List.set_cons_succ, List.set_cons_zero]
              exact ⟨_, _, _, _, _, _, rfl⟩
            exact AllReadyH.nil
          exact AllReadyH.nil
        exact AllReadyH.nil
      exact AllReadyH.nil
    refine Agg.held_cons rfl ?_ ?_
    · refine Agg.step_allocB rfl 29 rfl (bC (zB, none, 0, 0)) bC_zero ?_
      intro gx w_d_6 hb hx hg
      have K_d_6 := Lib.hid (Agg.belowThen K_d.out (Nat.le_refl _) hx)
      have S_d_6 := Lib.hid (HLB3.out w_d_6 K_d_6.out)
      have z_d_6 := hx.size
      have G_d_6 := Lib.hid hb
      have HGX := Lib.hid (Nat.le_trans K_d.out.size hg)
      have RX := Lib.hid (show w_d.heap.size ≤ gx ∧ gx < w_d_6.heap.size from ⟨hg, hb.lt⟩)
      clear hb hx hg
      refine ⟨S_d_6.out, ?_⟩
      try simp only [Act.put, List.setIfInBounds_toArray, List.set_cons_succ, List.set_cons_zero]
      refine Agg.held_ready [1] (by kernel_rfl) (by simp) ?_
      refine Agg.held_cons rfl ?_ ?_
      · refine Agg.step_call rfl 7 _ _ rfl #[v] (by simp only [List.map_toArray, List.map_cons, List.map_nil]; rfl) (fun W => HE7.out _ W) ?_
        refine (lentBuilts_any v l (by omega) HNI.out w_d_6 (HSP.out _ K_d_6.out)).mono ?_
        rintro e w_d_6_1 ⟨v9, lv, rfl, hl9, hm9, hi9, hx⟩
        have K_d_6_1 := Lib.hid (Agg.belowThen K_d_6.out (Nat.le_refl _) hx)
        have S_d_6_1 := Lib.hid (HLB3.out w_d_6_1 K_d_6_1.out)
        have z_d_6_1 := hx.size
        have G_d_6_1 := Lib.hid (G_d_6.out.below hx)
        have L_d_6_1 := Lib.hid (hl9.lower K_d_6.out.size)
        have N_d_6_1 := Lib.hid (fun x hx2 => (hi9 x hx2).lower K_d_6.out.size)
        have HM := Lib.hid hm9
        have R9 := Lib.hid (hl9.lt (by rw [marksG_length]; omega))
        have HN9 := Lib.hid (fun k (h : v9.ownBlock = some k) (e : k = gx) => (show False by have := R9.out k h; have := RX.out; omega))
        clear hl9 hm9 hi9 hx
        refine ⟨_, rfl, S_d_6_1.out, ?_⟩
        try simp only [Act.put, List.setIfInBounds_toArray, List.set_cons_succ, List.set_cons_zero]
        refine Agg.held_ready [3] (by kernel_rfl) (by simp) ?_
        refine Agg.held_cons rfl ?_ ?_
        · refine Agg.step_call rfl 8 _ _ rfl #[.agg (bC b)] (by simp only [List.map_toArray, List.map_cons, List.map_nil]; rfl) (fun W => HE8.out _ W) ?_
          refine (lentBuilt_any b w_d_6_1 HNB.out.1 (HIP.out _ K_d_6_1.out)).mono ?_
          rintro e w_d_6_1_3 ⟨iv, rfl, hi, hx⟩
          have K_d_6_1_3 := Lib.hid (Agg.belowThen K_d_6_1.out (Nat.le_refl _) hx)
          have S_d_6_1_3 := Lib.hid (HLB3.out w_d_6_1_3 K_d_6_1_3.out)
          have z_d_6_1_3 := hx.size
          have L_d_6_1_3 := Lib.hid (L_d_6_1.out.below hx)
          have N_d_6_1_3 := Lib.hid (fun x hx2 => (N_d_6_1.out x hx2).below hx)
          have G_d_6_1_3 := Lib.hid (G_d_6_1.out.below hx)
          have O_d_6_1_3 := Lib.hid (hi.lower K_d_6_1.out.size)
          clear hi hx
          refine ⟨_, rfl, S_d_6_1_3.out, ?_⟩
          try simp only [Act.put, List.setIfInBounds_toArray, List.set_cons_succ, List.set_cons_zero]
          refine Agg.held_ready [5] (by kernel_rfl) (by simp) ?_
          refine Agg.held_cons rfl ?_ ?_
          · refine Agg.step_call rfl 9 _ _ rfl #[u] (by simp only [List.map_toArray, List.map_cons, List.map_nil]; rfl) (fun W => HE9.out _ W) ?_
            refine (lentPaths_any u held hh w_d_6_1_3 (HTP.out _ K_d_6_1_3.out)).mono ?_
            rintro e w_d_6_1_3_5 ⟨up, rfl, hx, hl9⟩
            have K_d_6_1_3_5 := Lib.hid (Agg.belowThen K_d_6_1_3.out (Nat.le_refl _) hx)
            have S_d_6_1_3_5 := Lib.hid (HLB3.out w_d_6_1_3_5 K_d_6_1_3_5.out)
            have z_d_6_1_3_5 := hx.size
            have L_d_6_1_3_5 := Lib.hid (L_d_6_1_3.out.below hx)
            have N_d_6_1_3_5 := Lib.hid (fun x hx2 => (N_d_6_1_3.out x hx2).below hx)
            have O_d_6_1_3_5 := Lib.hid (O_d_6_1_3.out.below hx)
            have G_d_6_1_3_5 := Lib.hid (G_d_6_1_3.out.below hx)
            have U_d_6_1_3_5 := Lib.hid (hl9.lower K_d_6_1_3.out.size)
            have RU := Lib.hid (hl9.lt (by rw [marksG_length]; omega))
            have HNU := Lib.hid (fun k (h : up.ownBlock = some k) (e : k = gx) => (show False by have := RU.out k h; have := RX.out; omega))
            clear hl9 hx
            refine ⟨_, rfl, S_d_6_1_3_5.out, ?_⟩
            try simp only [Act.put, List.setIfInBounds_toArray, List.set_cons_succ, List.set_cons_zero]
            refine Agg.held_take 7 (v9) rfl (by kernel_rfl) (fun _ _ _ h => h) rfl (fun W _ => by kernel_rfl) (by assumption) ?_
            try simp only [Act.put, List.setIfInBounds_toArray, List.set_cons_succ, List.set_cons_zero]
            refine Agg.held_ready [8] (by kernel_rfl) (by simp) ?_
            refine Agg.held_cons rfl ?_ ?_
            · obtain ⟨w_d_6_1_3_5_8, hrun, hb, ho⟩ := buB_all G_d_6_1_3_5.out (b.1, iv)
              refine Agg.step_store rfl rfl 29 _ _ rfl (.pointer (some ⟨gx, 0, none⟩)) (.agg (bC (b.1, iv))) rfl rfl hrun ?_
              have K_d_6_1_3_5_8 := Lib.hid (K_d_6_1_3_5.out.trans (ho.below (B := wP.heap.size) K_d_6_1_3_5.out.size (fun i hi => by subst hi; exact HGX.out)))
              have S_d_6_1_3_5_8 := Lib.hid (HLB3.out w_d_6_1_3_5_8 K_d_6_1_3_5_8.out)
              have L_d_6_1_3_5_8 := Lib.hid (L_d_6_1_3_5.out.onlyB ho (fun k h e => HN9.out k h e))
              have N_d_6_1_3_5_8 := Lib.hid (fun x hx2 => (N_d_6_1_3_5.out x hx2).store G_d_6_1_3_5.out ho)
              have O_d_6_1_3_5_8 := Lib.hid (O_d_6_1_3_5.out.store G_d_6_1_3_5.out ho)
              have U_d_6_1_3_5_8 := Lib.hid (U_d_6_1_3_5.out.onlyB ho (fun k h e => HNU.out k h e))
              have G_d_6_1_3_5_8 := Lib.hid hb
              clear hrun hb ho
              refine ⟨S_d_6_1_3_5_8.out, ?_⟩
              try simp only [Act.put, List.setIfInBounds_toArray, List.set_cons_succ, List.set_cons_zero]
              refine Agg.held_take 9 (up) rfl (by kernel_rfl) (fun _ _ _ h => h) rfl (fun W _ => by kernel_rfl) (by assumption) ?_
              try simp only [Act.put, List.setIfInBounds_toArray, List.set_cons_succ, List.set_cons_zero]
              refine Agg.held_end (by kernel_rfl) ?_
              refine ⟨v9, lv, iv, up, gx, ⟨L_d_6_1_3_5_8.out, HM.out, N_d_6_1_3_5_8.out, O_d_6_1_3_5_8.out, U_d_6_1_3_5_8.out, G_d_6_1_3_5_8.out, K_d_6_1_3_5_8.out⟩, ?_⟩
              simp only [Agg.ExPut, Act.put, List.setIfInBounds_toArray, List.set_cons_succ, List.set_cons_zero]
              exact ⟨_, _, _, _, _, _, rfl⟩
            exact AllReadyH.nil
          exact AllReadyH.nil
        exact AllReadyH.nil
      exact AllReadyH.nil
    exact AllReadyH.nil
  rintro a' wA ⟨v9, lv, iv, up, gx, hR, hput⟩
  simp only [Agg.ExPut] at hput
  obtain ⟨x36, x37, x38, x39, x40, x41, rfl⟩ := hput
  try simp only [Act.put, List.setIfInBounds_toArray, List.set_cons_succ, List.set_cons_zero]
  have HR := Lib.hid hR
  have HXA := Lib.hid (Agg.belowThen HXP.out (Nat.le_refl _) hR.below)
  clear hR HLB3 HSP HIP HTP
  have HRW := Lib.hid (fun W (k : Below wA.heap.size wA W) => HR.out.later k)
  have FS := Lib.hid (fun W (k : Below wA.heap.size wA W) => HS.out.below (Agg.belowThen HXA.out (Nat.le_refl _) k))
  have FI := Lib.hid (fun W (k : Below wA.heap.size wA W) => (HB.out.below (Agg.belowThen HXA.out (Nat.le_refl _) k) : InsAt W b))
  have FT := Lib.hid (fun W (k : Below wA.heap.size wA W) => (SliceOf.below HT.out (Agg.belowThen HXA.out (Nat.le_refl _) k) : ElemsAt W u held))
  have F5 := Lib.hid (fun W (k : Below wA.heap.size wA W) => BuG.of_blk ((HBP.out.below HR.out.below).below k))
  have FH := Lib.hid (fun W (k : Below wA.heap.size wA W) => (HHP.out.below HR.out.below).below k)
  have FX := Lib.hid (fun W (k : Below wA.heap.size wA W) => BuG.of_blk (HRW.out W k).blk)
  have hlvl : lv.length = l.length := map_len HR.out.map
  have HNV := Lib.hid (map_small HR.out.map (p := fun x => x.ins.length ≤ 1048576) HNI.out : ∀ x ∈ lv, x.1.ins.length ≤ 1048576)
  have K_A := Lib.hid (Below.refl wA.heap.size wA)
  go_wp2_with (first | (with_reducible refine wpList_loadL (FX.out _ K_A.out).all rfl _ rfl rfl ?_))
  refine (addO_any v9 lv (by omega) HNV.out (b.1, iv) HNB.out.1 wA (HRW.out _ K_A.out).bus (HRW.out _ K_A.out).one.ins).mono ?_
  rintro e wB ⟨v12, cB, la, rfl, hc0, hadd, hown, hx⟩
  obtain ⟨sa, rfl⟩ := own_svG hown.row
  have hsm := addP_small hadd (fun h => by rw [hc0 h]; rfl)
  have hlenla : la.length ≤ l.length + 1 := by have := hsm.1; rw [List.length_map, List.length_map, hlvl] at this; exact this
  have HNla := Lib.hid (fun x hx => (hsm.2 x.1 (List.mem_map.2 ⟨x, hx, rfl⟩)).elim (fun e => by rw [e]; exact HNB.out.1) (fun h => by obtain ⟨y, hy, e⟩ := List.mem_map.1 h; rw [← e]; exact HNV.out y hy) : ∀ x ∈ la, x.1.ins.length ≤ 1048576)
  have hAR := addR_of hadd (fun h => by rw [hc0 h]; rfl)
  rw [HR.out.map] at hAR
  have HAR := Lib.hid hAR
  clear hAR
  have MA_B := Lib.hid (OwnMany.one hown)
  have OA_B := Lib.hid hown.at_
  clear hc0 hadd hown hsm
  have K_B := Lib.hid (Agg.belowThen K_A.out (Nat.le_refl _) hx)
  have z_B := hx.size
  clear hx
  go_wp2_with (first | (with_reducible refine wpList_loadL (F5.out _ K_B.out).all rfl _ rfl rfl ?_))
  refine (refAddB_any v l (by omega) HSM.out b HSB.out wB (FS.out _ K_B.out) (FI.out _ K_B.out)).mono ?_
  rintro e wC ⟨v14, c2, lc, rfl, haddr, hbus, hx⟩
  obtain ⟨hce, hlac⟩ := addR_one HAR.out haddr
  have HLA := Lib.hid hlac
  have OC_C := Lib.hid hbus
  clear HAR haddr hlac hbus
  subst hce
  have MA_C := Lib.hid (MA_B.out.below hx)
  have OA_C := Lib.hid (OA_B.out.below hx)
  have K_C := Lib.hid (Agg.belowThen K_B.out (Nat.le_refl _) hx)
  have z_C := hx.size
  clear hx
  go_wp2_with fail
  try simp only [List.append_eq, List.cons_append, List.nil_append]
  try simp only [Act.put, List.setIfInBounds_toArray, List.set_cons_succ, List.set_cons_zero]
  obtain ⟨w0, hw0⟩ : ∃ W, W = wC.drew := ⟨_, rfl⟩
  have hx : Below wC.heap.size wC w0 := by rw [hw0]; exact (Below.refl _ _).drew
  have MA_0 := Lib.hid (MA_C.out.below hx)
  have OA_0 := Lib.hid (OA_C.out.below hx)
  have OC_0 := Lib.hid (OC_C.out.below hx)
  have K_0 := Lib.hid (Agg.belowThen K_C.out (Nat.le_refl _) hx)
  have z_0 := hx.size
  have S_0 := Lib.hid (FH.out w0 K_0.out)
  refine wp_region_held_drew (S := fun W => LoadsL Tryz.prog W 24 (some ⟨g6, 0, none⟩) (.agg (hC h.1))) (by kernel_rfl) (by rw [← hw0]; exact S_0.out) (fun hHeld => ?_)
  rw [← hw0] at hHeld ⊢
  clear hw0 hx hHeld
  refine Agg.held_take 0 (v9) rfl (by kernel_rfl) (fun _ _ _ h => h) rfl (fun W _ => by kernel_rfl) (by assumption) ?_
  try simp only [Act.put, List.setIfInBounds_toArray, List.set_cons_succ, List.set_cons_zero]
  refine Agg.held_take 1 (.agg (hC h.1)) rfl (by kernel_rfl) (fun _ _ _ h => h) rfl (fun W hS => exec_loadB rfl rfl hS.now) (by assumption) ?_
  try simp only [Act.put, List.setIfInBounds_toArray, List.set_cons_succ, List.set_cons_zero]
  refine Agg.held_take 3 (v9) rfl (by kernel_rfl) (fun _ _ _ h => h) rfl (fun W _ => by kernel_rfl) (by assumption) ?_
  try simp only [Act.put, List.setIfInBounds_toArray, List.set_cons_succ, List.set_cons_zero]
  refine Agg.held_take 4 (.agg (hC h.1)) rfl (by kernel_rfl) (fun _ _ _ h => h) rfl (fun W hS => exec_loadB rfl rfl hS.now) (by assumption) ?_
  try simp only [Act.put, List.setIfInBounds_toArray, List.set_cons_succ, List.set_cons_zero]
  refine Agg.held_take 6 (v9) rfl (by kernel_rfl) (fun _ _ _ h => h) rfl (fun W _ => by kernel_rfl) (by assumption) ?_
  try simp only [Act.put, List.setIfInBounds_toArray, List.set_cons_succ, List.set_cons_zero]
  refine Agg.held_take 7 (up) rfl (by kernel_rfl) (fun _ _ _ h => h) rfl (fun W _ => by kernel_rfl) (by assumption) ?_
  try simp only [Act.put, List.setIfInBounds_toArray, List.set_cons_succ, List.set_cons_zero]
  refine Agg.held_take 9 (v9) rfl (by kernel_rfl) (fun _ _ _ h => h) rfl (fun W _ => by kernel_rfl) (by assumption) ?_
  try simp only [Act.put, List.setIfInBounds_toArray, List.set_cons_succ, List.set_cons_zero]
  refine Agg.held_ready [2] (by kernel_rfl) (by simp) ?_
  refine Agg.held_cons rfl ?_ ?_
  · refine Agg.step_call rfl 12 _ _ rfl #[v9, .agg (hC h.1)] (by simp only [List.map_toArray, List.map_cons, List.map_nil]; rfl) (fun W => HE12.out _ W) ?_
    refine (ofClassO_any v9 lv (by omega) HNV.out h w0 (HRW.out _ K_0.out).bus).mono ?_
    rintro e wD ⟨v16, ld, rfl, hown, hm, hx⟩
    obtain ⟨sd, rfl⟩ := own_svG hown.row
    have hfs := filter_small hm
    have hlenld : ld.length ≤ l.length := by have := hfs.1; omega
    have HNld := Lib.hid (hfs.2 (p := fun x => x.ins.length ≤ 1048576) HNV.out : ∀ x ∈ ld, x.1.ins.length ≤ 1048576)
    rw [HR.out.map] at hm
    have HMld := Lib.hid hm
    have MD_D := Lib.hid (OwnMany.one hown)
    have OD_D := Lib.hid hown.at_
    clear hown hm hfs
    have MA_D := Lib.hid (MA_0.out.below hx)
    have OA_D := Lib.hid (OA_0.out.below hx)
    have OC_D := Lib.hid (OC_0.out.below hx)
    have K_D := Lib.hid (Agg.belowThen K_0.out (Nat.le_refl _) hx)
    have z_D := hx.size
    clear hx
    have S_D := Lib.hid (FH.out wD K_D.out)
    refine ⟨_, rfl, S_D.out, ?_⟩
    try simp only [Act.put, List.setIfInBounds_toArray, List.set_cons_succ, List.set_cons_zero]
    refine Agg.held_ready [5] (by kernel_rfl) (by simp) ?_
    refine Agg.held_cons rfl ?_ ?_
    · refine Agg.step_call rfl 13 _ _ rfl #[v9, .agg (hC h.1)] (by simp only [List.map_toArray, List.map_cons, List.map_nil]; rfl) (fun W => HE13.out _ W) ?_
      refine (ofKeyO_any v9 lv (by omega) HNV.out h wD (HRW.out _ K_D.out).bus).mono ?_
      rintro e wE ⟨v17, lg, rfl, hown, hm, hx⟩
      obtain ⟨sg, rfl⟩ := own_svG hown.row
      have hfs := filter_small hm
      have hlenlg : lg.length ≤ l.length := by have := hfs.1; omega
      have HNlg := Lib.hid (hfs.2 (p := fun x => x.ins.length ≤ 1048576) HNV.out : ∀ x ∈ lg, x.1.ins.length ≤ 1048576)
      rw [HR.out.map] at hm
      have HMlg := Lib.hid hm
      have MG_E := Lib.hid (OwnMany.one hown)
      have OG_E := Lib.hid hown.at_
      clear hown hm hfs
      have MA_E := Lib.hid (MA_D.out.below hx)
      have OA_E := Lib.hid (OA_D.out.below hx)
      have OC_E := Lib.hid (OC_D.out.below hx)
      have MD_E := Lib.hid (MD_D.out.below hx)
      have OD_E := Lib.hid (OD_D.out.below hx)
      have K_E := Lib.hid (Agg.belowThen K_D.out (Nat.le_refl _) hx)
      have z_E := hx.size
      clear hx
      have S_E := Lib.hid (FH.out wE K_E.out)
      refine ⟨_, rfl, S_E.out, ?_⟩
      try simp only [Act.put, List.setIfInBounds_toArray, List.set_cons_succ, List.set_cons_zero]
      refine Agg.held_ready [8] (by kernel_rfl) (by simp) ?_
      refine Agg.held_cons rfl ?_ ?_
      · refine Agg.step_call rfl 14 _ _ rfl #[v9, up] (by simp only [List.map_toArray, List.map_cons, List.map_nil]; rfl) (fun W => HE14.out _ W) ?_
        refine (keptO_any v9 up lv held (by omega) hh HNV.out wE (HRW.out _ K_E.out).bus (HRW.out _ K_E.out).paths.slice).mono ?_
        rintro e wF ⟨v18, lk, rfl, hown, hm, hx⟩
        obtain ⟨sk, rfl⟩ := own_svG hown.row
        have hfs := filter_small hm
        have hlenlk : lk.length ≤ l.length := by have := hfs.1; omega
        have HNlk := Lib.hid (hfs.2 (p := fun x => x.ins.length ≤ 1048576) HNV.out : ∀ x ∈ lk, x.1.ins.length ≤ 1048576)
        rw [HR.out.map] at hm
        have HMlk := Lib.hid hm
        have MK_F := Lib.hid (OwnMany.one hown)
        have OK_F := Lib.hid hown.at_
        clear hown hm hfs
        have MA_F := Lib.hid (MA_E.out.below hx)
        have OA_F := Lib.hid (OA_E.out.below hx)
        have OC_F := Lib.hid (OC_E.out.below hx)
        have MD_F := Lib.hid (MD_E.out.below hx)
        have OD_F := Lib.hid (OD_E.out.below hx)
        have MG_F := Lib.hid (MG_E.out.below hx)
        have OG_F := Lib.hid (OG_E.out.below hx)
        have K_F := Lib.hid (Agg.belowThen K_E.out (Nat.le_refl _) hx)
        have z_F := hx.size
        clear hx
        have S_F := Lib.hid (FH.out wF K_F.out)
        refine ⟨_, rfl, S_F.out, ?_⟩
        try simp only [Act.put, List.setIfInBounds_toArray, List.set_cons_succ, List.set_cons_zero]
        refine Agg.held_ready [10] (by kernel_rfl) (by simp) ?_
        refine Agg.held_cons rfl ?_ ?_
        · refine Agg.step_call rfl 15 _ _ rfl #[v9] (by simp only [List.map_toArray, List.map_cons, List.map_nil]; rfl) (fun W => HE15.out _ W) ?_
          refine (pathsBO_any v9 lv (by omega) wF (HRW.out _ K_F.out).bus).mono ?_
          rintro e wG ⟨v19, R, rfl, hris, hmem, hown, hx⟩
          obtain ⟨sp, rfl⟩ := own_svG hown
          have PA_G := Lib.hid hown
          have RP := Lib.hid (own_inG hown)
          have HRIS := Lib.hid hris
          have HMEM := Lib.hid hmem
          have hRl : R.length ≤ 1048576 := by
              have := rising_len R (lv.map fun x => x.1.pa) hris (fun q hq => by obtain ⟨x, hx, e⟩ := (hmem q).1 hq; exact List.mem_map.2 ⟨x, hx, e⟩)
              rw [List.length_map] at this
              omega
          clear hown hris hmem
          have MA_G := Lib.hid (MA_F.out.below hx)
          have OA_G := Lib.hid (OA_F.out.below hx)
          have OC_G := Lib.hid (OC_F.out.below hx)
          have MD_G := Lib.hid (MD_F.out.below hx)
          have OD_G := Lib.hid (OD_F.out.below hx)
          have MG_G := Lib.hid (MG_F.out.below hx)
          have OG_G := Lib.hid (OG_F.out.below hx)
          have MK_G := Lib.hid (MK_F.out.below hx)
          have OK_G := Lib.hid (OK_F.out.below hx)
          have K_G := Lib.hid (Agg.belowThen K_F.out (Nat.le_refl _) hx)
          have z_G := hx.size
          clear hx
          have S_G := Lib.hid (FH.out wG K_G.out)
          refine ⟨_, rfl, S_G.out, ?_⟩
          try simp only [Act.put, List.setIfInBounds_toArray, List.set_cons_succ, List.set_cons_zero]
          refine Agg.held_take 11 (sd.1) rfl (by kernel_rfl) (fun _ _ _ h => h) rfl (fun W _ => by kernel_rfl) (by assumption) ?_
          try simp only [Act.put, List.setIfInBounds_toArray, List.set_cons_succ, List.set_cons_zero]
          refine Agg.held_take 12 (sg.1) rfl (by kernel_rfl) (fun _ _ _ h => h) rfl (fun W _ => by kernel_rfl) (by assumption) ?_
          try simp only [Act.put, List.setIfInBounds_toArray, List.set_cons_succ, List.set_cons_zero]
          refine Agg.held_take 13 (sk.1) rfl (by kernel_rfl) (fun _ _ _ h => h) rfl (fun W _ => by kernel_rfl) (by assumption) ?_
          try simp only [Act.put, List.setIfInBounds_toArray, List.set_cons_succ, List.set_cons_zero]
          refine Agg.held_take 14 (sp.1) rfl (by kernel_rfl) (fun _ _ _ h => h) rfl (fun W _ => by kernel_rfl) (by assumption) ?_
          try simp only [Act.put, List.setIfInBounds_toArray, List.set_cons_succ, List.set_cons_zero]
          refine Agg.held_end (by kernel_rfl) ?_
          go_wp2_with fail
          refine (buMap_any v9 lv (by omega) wG (HRW.out _ K_G.out).bus).mono ?_
          rintro e wH ⟨bm, rfl, hbm, hx⟩
          have MA_H := Lib.hid (MA_G.out.below hx)
          have OA_H := Lib.hid (OA_G.out.below hx)
          have OC_H := Lib.hid (OC_G.out.below hx)
          have MD_H := Lib.hid (MD_G.out.below hx)
          have OD_H := Lib.hid (OD_G.out.below hx)
          have MG_H := Lib.hid (MG_G.out.below hx)
          have OG_H := Lib.hid (OG_G.out.below hx)
          have MK_H := Lib.hid (MK_G.out.below hx)
          have OK_H := Lib.hid (OK_G.out.below hx)
          have PA_H := Lib.hid (PA_G.out.below hx)
          have K_H := Lib.hid (Agg.belowThen K_G.out (Nat.le_refl _) hx)
          have z_H := hx.size
          clear hx
          go_wp2_with fail
          refine (refMapB_any v l (by omega) HSM.out wH (FS.out _ K_H.out)).mono ?_
          rintro e wI ⟨bm2, rfl, hbm2, hx⟩
          obtain rfl : bm = bm2 := by rw [Bool.eq_iff_iff, hbm, hbm2, HR.out.map]
          have hbb : (bm != bm) = false := by cases bm <;> rfl
          clear hbm hbm2
          have MA_I := Lib.hid (MA_H.out.below hx)
          have OA_I := Lib.hid (OA_H.out.below hx)
          have OC_I := Lib.hid (OC_H.out.below hx)
          have MD_I := Lib.hid (MD_H.out.below hx)
          have OD_I := Lib.hid (OD_H.out.below hx)
          have MG_I := Lib.hid (MG_H.out.below hx)
          have OG_I := Lib.hid (OG_H.out.below hx)
          have MK_I := Lib.hid (MK_H.out.below hx)
          have OK_I := Lib.hid (OK_H.out.below hx)
          have PA_I := Lib.hid (PA_H.out.below hx)
          have K_I := Lib.hid (Agg.belowThen K_H.out (Nat.le_refl _) hx)
          have z_I := hx.size
          clear hx
          go_wp2_with fail
          refine (sameBus_any sa.1 v14 la lc (by omega) HNla.out wI OA_I.out OC_I.out).mono ?_
          rintro e wJ ⟨rfl, hx⟩
          rw [decide_eq_true HLA.out]
          have MA_J := Lib.hid (MA_I.out.below hx)
          have MD_J := Lib.hid (MD_I.out.below hx)
          have OD_J := Lib.hid (OD_I.out.below hx)
          have MG_J := Lib.hid (MG_I.out.below hx)
          have OG_J := Lib.hid (OG_I.out.below hx)
          have MK_J := Lib.hid (MK_I.out.below hx)
          have OK_J := Lib.hid (OK_I.out.below hx)
          have PA_J := Lib.hid (PA_I.out.below hx)
          have K_J := Lib.hid (Agg.belowThen K_I.out (Nat.le_refl _) hx)
          have z_J := hx.size
          clear hx
          go_wp2_with (first | (with_reducible refine wpList_loadL (FH.out _ K_J.out) rfl _ rfl rfl ?_))
          refine (refOfClass_any v l (by omega) h wJ (FS.out _ K_J.out)).mono ?_
          rintro e wJ1 ⟨v85, ld2, rfl, hbus, hm, hx⟩
          have HEQld2 := Lib.hid (HMld.out.trans hm.symm)
          have HBQ_J1 := Lib.hid hbus
          clear hm hbus
          have MA_J1 := Lib.hid (MA_J.out.below hx)
          have MD_J1 := Lib.hid (MD_J.out.below hx)
          have OD_J1 := Lib.hid (OD_J.out.below hx)
          have MG_J1 := Lib.hid (MG_J.out.below hx)
          have OG_J1 := Lib.hid (OG_J.out.below hx)
          have MK_J1 := Lib.hid (MK_J.out.below hx)
          have OK_J1 := Lib.hid (OK_J.out.below hx)
          have PA_J1 := Lib.hid (PA_J.out.below hx)
          have K_J1 := Lib.hid (Agg.belowThen K_J.out (Nat.le_refl _) hx)
          have z_J1 := hx.size
          clear hx
          go_wp2_with fail
          refine (sameBus_any sd.1 v85 ld ld2 (by omega) HNld.out wJ1 OD_J1.out HBQ_J1.out).mono ?_
          rintro e wJ2 ⟨rfl, hx⟩
          rw [decide_eq_true HEQld2.out]
          have MA_J2 := Lib.hid (MA_J1.out.below hx)
          have MD_J2 := Lib.hid (MD_J1.out.below hx)
          have MG_J2 := Lib.hid (MG_J1.out.below hx)
          have OG_J2 := Lib.hid (OG_J1.out.below hx)
          have MK_J2 := Lib.hid (MK_J1.out.below hx)
          have OK_J2 := Lib.hid (OK_J1.out.below hx)
          have PA_J2 := Lib.hid (PA_J1.out.below hx)
          have K_J2 := Lib.hid (Agg.belowThen K_J1.out (Nat.le_refl _) hx)
          have z_J2 := hx.size
          clear hx
          go_wp2_with (first | (with_reducible refine wpList_loadL (FH.out _ K_J2.out) rfl _ rfl rfl ?_))
          refine (refOfKey_any v l (by omega) h wJ2 (FS.out _ K_J2.out)).mono ?_
          rintro e wJ21 ⟨v93, lg2, rfl, hbus, hm, hx⟩
          have HEQlg2 := Lib.hid (HMlg.out.trans hm.symm)
          have HBQ_J21 := Lib.hid hbus
          clear hm hbus
          have MA_J21 := Lib.hid (MA_J2.out.below hx)
          have MD_J21 := Lib.hid (MD_J2.out.below hx)
          have MG_J21 := Lib.hid (MG_J2.out.below hx)
          have OG_J21 := Lib.hid (OG_J2.out.below hx)
          have MK_J21 := Lib.hid (MK_J2.out.below hx)
          have OK_J21 := Lib.hid (OK_J2.out.below hx)
          have PA_J21 := Lib.hid (PA_J2.out.below hx)
          have K_J21 := Lib.hid (Agg.belowThen K_J2.out (Nat.le_refl _) hx)
          have z_J21 := hx.size
          clear hx
          go_wp2_with fail
          refine (sameBus_any sg.1 v93 lg lg2 (by omega) HNlg.out wJ21 OG_J21.out HBQ_J21.out).mono ?_
          rintro e wJ22 ⟨rfl, hx⟩
          rw [decide_eq_true HEQlg2.out]
          have MA_J22 := Lib.hid (MA_J21.out.below hx)
          have MD_J22 := Lib.hid (MD_J21.out.below hx)
          have MG_J22 := Lib.hid (MG_J21.out.below hx)
          have MK_J22 := Lib.hid (MK_J21.out.below hx)
          have OK_J22 := Lib.hid (OK_J21.out.below hx)
          have PA_J22 := Lib.hid (PA_J21.out.below hx)
          have K_J22 := Lib.hid (Agg.belowThen K_J21.out (Nat.le_refl _) hx)
          have z_J22 := hx.size
          clear hx
          go_wp2_with fail
          refine (refKeptB_any v u l held (by omega) hh wJ22 (FS.out _ K_J22.out) (FT.out _ K_J22.out)).mono ?_
          rintro e wJ221 ⟨v101, lk2, rfl, hbus, hm, hx⟩
          have HEQlk2 := Lib.hid (HMlk.out.trans hm.symm)
          have HBQ_J221 := Lib.hid hbus
          clear hm hbus
          have MA_J221 := Lib.hid (MA_J22.out.below hx)
          have MD_J221 := Lib.hid (MD_J22.out.below hx)
          have MG_J221 := Lib.hid (MG_J22.out.below hx)
          have MK_J221 := Lib.hid (MK_J22.out.below hx)
          have OK_J221 := Lib.hid (OK_J22.out.below hx)
          have PA_J221 := Lib.hid (PA_J22.out.below hx)
          have K_J221 := Lib.hid (Agg.belowThen K_J22.out (Nat.le_refl _) hx)
          have z_J221 := hx.size
          clear hx
          go_wp2_with fail
          refine (sameBus_any sk.1 v101 lk lk2 (by omega) HNlk.out wJ221 OK_J221.out HBQ_J221.out).mono ?_
          rintro e wJ222 ⟨rfl, hx⟩
          rw [decide_eq_true HEQlk2.out]
          have MA_J222 := Lib.hid (MA_J221.out.below hx)
          have MD_J222 := Lib.hid (MD_J221.out.below hx)
          have MG_J222 := Lib.hid (MG_J221.out.below hx)
          have MK_J222 := Lib.hid (MK_J221.out.below hx)
          have PA_J222 := Lib.hid (PA_J221.out.below hx)
          have K_J222 := Lib.hid (Agg.belowThen K_J221.out (Nat.le_refl _) hx)
          have z_J222 := hx.size
          clear hx
          go_wp2_with fail
          refine (refPathsB_any v l (by omega) wJ222 (FS.out _ K_J222.out)).mono ?_
          rintro e wT ⟨v108, R2, rfl, hr2, hm2, he2, hx⟩
          obtain rfl : R = R2 := paths_same HR.out.map HRIS.out hr2 HMEM.out hm2
          have HE2 := Lib.hid he2
          clear hr2 hm2 he2
          have MA_T := Lib.hid (MA_J222.out.below hx)
          have MD_T := Lib.hid (MD_J222.out.below hx)
          have MG_T := Lib.hid (MG_J222.out.below hx)
          have MK_T := Lib.hid (MK_J222.out.below hx)
          have PA_T := Lib.hid (PA_J222.out.below hx)
          have K_T := Lib.hid (Agg.belowThen K_J222.out (Nat.le_refl _) hx)
          have z_T := hx.size
          clear hx
          go_wp2_with fail
          refine (samePaths_any sp.1 v108 R R hRl hRl wT PA_T.out.slice HE2.out).mono ?_
          rintro e wU ⟨rfl, hx⟩
          rw [decide_eq_true rfl]
          have MA_U := Lib.hid (MA_T.out.below hx)
          have MD_U := Lib.hid (MD_T.out.below hx)
          have MG_U := Lib.hid (MG_T.out.below hx)
          have MK_U := Lib.hid (MK_T.out.below hx)
          have PA_U := Lib.hid (PA_T.out.below hx)
          have K_U := Lib.hid (Agg.belowThen K_T.out (Nat.le_refl _) hx)
          have z_U := hx.size
          clear hx
          go_wp2_with (first | (with_reducible refine wpList_loadL (FX.out _ K_U.out).all rfl _ rfl rfl ?_))
          refine (addO_any v9 lv (by omega) HNV.out (b.1, iv) HNB.out.1 wU (HRW.out _ K_U.out).bus (HRW.out _ K_U.out).one.ins).mono ?_
          rintro e wV ⟨v20, cV, la2, rfl, hc0, hadd, hown, hx⟩
          obtain ⟨sa2, rfl⟩ := own_svG hown.row
          have hsm := addP_small hadd (fun h => by rw [hc0 h]; rfl)
          have hlenla2 : la2.length ≤ l.length + 1 := by have := hsm.1; rw [List.length_map, List.length_map, hlvl] at this; exact this
          have HNla2 := Lib.hid (fun x hx => (hsm.2 x.1 (List.mem_map.2 ⟨x, hx, rfl⟩)).elim (fun e => by rw [e]; exact HNB.out.1) (fun h => by obtain ⟨y, hy, e⟩ := List.mem_map.1 h; rw [← e]; exact HNV.out y hy) : ∀ x ∈ la2, x.1.ins.length ≤ 1048576)
          have MA2_V := Lib.hid (OwnMany.one hown)
          clear hc0 hadd hown hsm
          have MA_V := Lib.hid (MA_U.out.below hx)
          have MD_V := Lib.hid (MD_U.out.below hx)
          have MG_V := Lib.hid (MG_U.out.below hx)
          have MK_V := Lib.hid (MK_U.out.below hx)
          have PA_V := Lib.hid (PA_U.out.below hx)
          have K_V := Lib.hid (Agg.belowThen K_U.out (Nat.le_refl _) hx)
          have z_V := hx.size
          clear hx
          go_wp2_with (first | (refine wpList_rows5 rfl _ _ _ _ _ rfl sa sa2 sd sg sk rfl rfl rfl rfl rfl ?_; intro vr wX hsl hx; have SL := Lib.hid hsl; have MA_X := Lib.hid (MA_V.out.below hx); have MD_X := Lib.hid (MD_V.out.below hx); have MG_X := Lib.hid (MG_V.out.below hx); have MK_X := Lib.hid (MK_V.out.below hx); have PA_X := Lib.hid (PA_V.out.below hx); have MA2_X := Lib.hid (MA2_V.out.below hx); have K_X := Lib.hid (Agg.belowThen K_V.out (Nat.le_refl _) hx); have z_X := hx.size; clear hsl hx))
          have m1 := MA_X.out.append MA2_X.out (fun b (h1 : (wA.heap.size ≤ b ∧ b < wB.heap.size)) (h2 : (wU.heap.size ≤ b ∧ b < wV.heap.size)) => by omega)
          have m2 := m1.append MD_X.out (fun b (h1 : (wA.heap.size ≤ b ∧ b < wB.heap.size) ∨ (wU.heap.size ≤ b ∧ b < wV.heap.size)) (h2 : (w0.heap.size ≤ b ∧ b < wD.heap.size)) => by omega)
          have m3 := m2.append MG_X.out (fun b (h1 : ((wA.heap.size ≤ b ∧ b < wB.heap.size) ∨ (wU.heap.size ≤ b ∧ b < wV.heap.size)) ∨ (w0.heap.size ≤ b ∧ b < wD.heap.size)) (h2 : (wD.heap.size ≤ b ∧ b < wE.heap.size)) => by omega)
          have m4 := m3.append MK_X.out (fun b (h1 : (((wA.heap.size ≤ b ∧ b < wB.heap.size) ∨ (wU.heap.size ≤ b ∧ b < wV.heap.size)) ∨ (w0.heap.size ≤ b ∧ b < wD.heap.size)) ∨ (wD.heap.size ≤ b ∧ b < wE.heap.size)) (h2 : (wE.heap.size ≤ b ∧ b < wF.heap.size)) => by omega)
          have HMM := Lib.hid (fun l2 (h : l2 ∈ ((([la] ++ [la2]) ++ [ld]) ++ [lg]) ++ [lk]) => (show (∀ x ∈ l2, x.1.ins.length ≤ 1048576) ∧ l2.length ≤ 1048576 by simp only [List.cons_append, List.nil_append, List.mem_cons, List.not_mem_nil, or_false] at h; rcases h with rfl | rfl | rfl | rfl | rfl; exact ⟨HNla.out, by omega⟩; exact ⟨HNla2.out, by omega⟩; exact ⟨HNld.out, by omega⟩; exact ⟨HNlg.out, by omega⟩; exact ⟨HNlk.out, by omega⟩))
          have HAP := Lib.hid (m4.apart vr SL.out (by simp only [insV, List.cons_append, List.nil_append, List.flatMap_cons, List.flatMap_nil, List.length_append, List.length_map, List.length_nil]; omega) (by simp) (fun l2 h => (HMM.out l2 h).1) (fun l2 h => (HMM.out l2 h).2))
          clear m1 m2 m3 m4
          refine HAP.out.mono ?_
          rintro e wY ⟨rfl, ho⟩
          have K_Y := Lib.hid (only_belowM K_X.out ho (fun b (hb : ((((wA.heap.size ≤ b ∧ b < wB.heap.size) ∨ (wU.heap.size ≤ b ∧ b < wV.heap.size)) ∨ (w0.heap.size ≤ b ∧ b < wD.heap.size)) ∨ (wD.heap.size ≤ b ∧ b < wE.heap.size)) ∨ (wE.heap.size ≤ b ∧ b < wF.heap.size)) => by omega))
          have PR_Y := Lib.hid ((RoomN.of_own PA_X.out).only ho (fun b hk (hb : ((((wA.heap.size ≤ b ∧ b < wB.heap.size) ∨ (wU.heap.size ≤ b ∧ b < wV.heap.size)) ∨ (w0.heap.size ≤ b ∧ b < wD.heap.size)) ∨ (wD.heap.size ≤ b ∧ b < wE.heap.size)) ∨ (wE.heap.size ≤ b ∧ b < wF.heap.size)) => by have := RP.out b hk; omega))
          have z_Y := ho.size
          clear ho HAP
          go_wp2_with fail
          refine (pathsBO_any v9 lv (by omega) wY (HRW.out _ K_Y.out).bus).mono ?_
          rintro e wZ ⟨v128, R3, rfl, hris3, hmem3, hown3, hx⟩
          obtain ⟨sp2, rfl⟩ := own_svG hown3
          have hRl3 : R3.length ≤ 1048576 := by
              have := rising_len R3 (lv.map fun x => x.1.pa) hris3 (fun q hq => by obtain ⟨x, hx, e⟩ := (hmem3 q).1 hq; exact List.mem_map.2 ⟨x, hx, e⟩)
              rw [List.length_map] at this
              omega
          have P2_Z := Lib.hid (RoomN.of_own hown3)
          have RP2 := Lib.hid (own_inG hown3)
          clear hris3 hmem3 hown3
          have PR_Z := Lib.hid (PR_Y.out.below hx)
          have K_Z := Lib.hid (Agg.belowThen K_Y.out (Nat.le_refl _) hx)
          have z_Z := hx.size
          clear hx
          go_wp2_with (first | (refine Agg.wpList_slice2g (E := EPP) rfl _ _ rfl sp sp2 rfl rfl ?_; intro vq wQ hsl hx; have SLQ := Lib.hid hsl; have PR_Q := Lib.hid (PR_Z.out.below hx); have P2_Q := Lib.hid (P2_Z.out.below hx); have K_Q := Lib.hid (Agg.belowThen K_Z.out (Nat.le_refl _) hx); have z_Q := hx.size; clear hsl hx))
          have hcr : ∀ k, SS [sp] k → ¬ SS [sp2] k := fun k h1 h2 => by have := RP.out k (ss_one h1); have := RP2.out k (ss_one h2); omega
          have hlow : ∀ k, SS ([sp] ++ [sp2]) k → wA.heap.size ≤ k := fun k h => by
              rcases ss_append h with h | h
              · have := RP.out k (ss_one h); omega
              · have := RP2.out k (ss_one h); omega
          have rooms : RoomsL E20 wQ ([sp] ++ [sp2]) ([R] ++ [R3]) := (RoomsL.one PR_Q.out).append (RoomsL.one P2_Q.out)
          have hbd : ∀ j : Nat, ((([R] ++ [R3])[j]?).getD []).length ≤ 8388608 := fun j => by
              cases hj : ([R] ++ [R3])[j]? with
              | none => simp
              | some m =>
                have hm := List.mem_of_getElem? hj
                simp only [List.mem_append, List.mem_singleton] at hm
                show m.length ≤ 8388608
                rcases hm with rfl | rfl <;> omega
          have HAQ := Lib.hid (apartPaths_any vq ([sp] ++ [sp2]) _ wQ SLQ.out rooms.of ((dist_one sp).append (dist_one sp2) hcr) (by simp) hbd)
          have HLOW := Lib.hid hlow
          clear hcr hlow rooms hbd
          refine HAQ.out.mono ?_
          rintro e wR ⟨rfl, ho⟩
          have K_R := Lib.hid (only_belowM K_Q.out ho HLOW.out)
          clear ho HAQ
          go_wp2_with fail
          refine (keptBuilts_any v9 v lv l (by omega) HNI.out wP.heap.size wR (HRW.out _ K_R.out).lent HR.out.map (HRW.out _ K_R.out).ins (FS.out _ K_R.out)).mono ?_
          rintro e wS ⟨rfl, hx⟩
          have K_S := Lib.hid (Agg.belowThen K_R.out (Nat.le_refl _) hx)
          have z_S := hx.size
          clear hx
          go_wp2_with (first | (with_reducible refine wpList_loadL (FX.out _ K_S.out).all rfl _ rfl rfl ?_) | (with_reducible refine wpList_loadL (F5.out _ K_S.out).all rfl _ rfl rfl ?_))
          refine (keptBuilt_any (b.1, iv) b rfl HNB.out.1 wP.heap.size wS (HRW.out _ K_S.out).one (FI.out _ K_S.out)).mono ?_
          rintro e wM ⟨rfl, hx⟩
          have K_M := Lib.hid (Agg.belowThen K_S.out (Nat.le_refl _) hx)
          have z_M := hx.size
          clear hx
          go_wp2_with fail
          refine (keptPaths_any up u held hh wP.heap.size wM (HRW.out _ K_M.out).paths (FT.out _ K_M.out)).mono ?_
          rintro e wN ⟨rfl, hx⟩
          have K_N := Lib.hid (Agg.belowThen K_M.out (Nat.le_refl _) hx)
          have z_N := hx.size
          clear hx
          go_wp2_with fail
          refine (awake22_any wN).mono ?_
          rintro e wO ⟨rfl, hx⟩
          have K_O := Lib.hid (Agg.belowThen K_N.out (Nat.le_refl _) hx)
          have z_O := hx.size
          clear hx
          go_wp2_with fail
          go_ret
          exact ⟨rfl, Agg.belowThen HXA.out (Nat.le_refl _) K_O.out⟩
        exact AllReadyH.nil
      exact AllReadyH.nil
    exact AllReadyH.nil
  exact AllReadyH.nil
end Go.Proofs.YtniibcgomnjfgaaGreat
