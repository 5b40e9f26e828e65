/- spenceref28.Put of any request. (Several texts in one.) -/
import Derived.Test.YtpnolgliklmnmaaGreatGAM
import Derived.Test.YtpnolgliklmnmaaGreatGAF
import Derived.Test.YtpnolgliklmnmaaGreatGAV
/-! spenceref01.Maker: Num, Raw, Text, Done. -/
namespace Go.Agg
open Go.RowKit
theorem step_appendO {P : Program} {α : Type} {E : Elem P α} {base : Nat} {ops : Array Oper} {o : Oper} {a : Act} {w : World} {Q : Exit → Act → World → Prop} {v : Value} {l : List α} {K : Act → World → Prop} {F : Prop} (hg : o.guard = none) (s x : Operand) (ho : o.op = .call { callee := .builtin .append, args := #[s, x], argTypes := #[E.st, E.st] }) (vx : Value) (hs : a.eval s = v) (hx : a.eval x = vx) (m : List α)
    (hown : Own E base w v l) (hm : SliceOf E w vx m) (h63 : l.length + m.length ≤ 1099511627776 / 8) (hby : E.bytes ≤ 1000) (hbase : base ≤ w.heap.size)
    (h : ∀ v' w', Own E base w' v' (l ++ m) → Pushed E base w w' v → Grew w v v' → K (a.put o.dst v') w') : if Region.wanted o (yielded ops a.tmps) = true then o.wp P a w K Q else F := by
  obtain ⟨v', w', hrun, h2, h3, h4, _⟩ := run_append (ty := o.type) hown _ m hm h63 hby hbase
  exact step_val hg (v := v') (w' := w') (by simp [execOp, ho, resolve, invoke, builtin, hs, hx, hrun]) (h v' w' h2 (pushed_of hown h3) (grew_of (Nat.le_refl _) h4))
end Go.Agg
namespace Go.Proofs.YtpnolgliklmnmaaGreat
open Go.RowKit Pl Go.Agg
/-- the document's maker: its bytes so far -/
structure MrV (g : Nat) (w : World) (v : Value) (b : List UInt8) : Prop where
  blk : Blk w g 81 (mkC v)
  own : Own EB (g + 1) w v b
section
variable {g : Nat} {w w' : World} {v : Value} {b : List UInt8}
theorem MrV.load (h : MrV g w v b) : LoadsL Tryz.prog w 23 (some ⟨g, 0, none⟩) v :=
  h.blk.one (P := Tryz.prog) 0 rfl (by kernel_rfl : Tryz.prog.underlying 23 = some (.slice 5)) rfl
theorem MrV.bad (h : MrV g w v b) : LoadsL Tryz.prog w 4 (some ⟨g, 1, none⟩) (.bool false) :=
  h.blk.one (P := Tryz.prog) 1 rfl Tryz.underlying4 rfl
theorem MrV.below (h : MrV g w v b) (hb : Below w.heap.size w w') : MrV g w' v b := ⟨h.blk.below hb, h.own.below hb⟩
theorem MrV.ge (h : MrV g w v b) : ∀ k, v.ownBlock = some k → g ≤ k := fun k hk => by have := (h.own.block k hk).1; omega
theorem MrV.lt (h : MrV g w v b) : ∀ k, v.ownBlock = some k → k < w.heap.size := fun k hk => by
  obtain ⟨_, cur, hc⟩ := h.own.block k hk
  exact Agg.heap_lt hc
theorem MrV.put {w1 : World} {v1 : Value} {l : List UInt8} (h : MrV g w v b) (ho : Own EB (g + 1) w1 v1 l) (hp : Pushed EB (g + 1) w w1 v) (hgr : Grew w v v1) :
    ∃ w2, (Instr.storeAt 23 (.pointer (some ⟨g, 0, none⟩)) v1).run Tryz.prog w1 = .ok () w2 ∧ MrV g w2 v1 l ∧ MkStep g w w2 v v1 := by
  have h1 : Blk w1 g 81 (mkC v) := hp.blk g _ _ _ (by decide) h.blk
  obtain ⟨p, c, rfl⟩ := ho.slice.form
  refine ⟨_, h1.run_put 0 (by simp [mkC]) _ rfl rfl (by kernel_rfl), ⟨h1.set 0 _, ho.keep fun k cur t fr hk hb => ?_⟩, ⟨?_, hgr⟩⟩
  · rw [Below.heap_setCell _ _ _ _ (by show k ≠ g; omega)]; exact hb
  · refine (hp.only.mono fun _ _ h => .inr h).trans (T := fun k => k = g) ⟨rfl, rfl, rfl, by simp [World.setCell], fun k _ hk => Below.heap_setCell _ _ _ _ hk⟩ fun _ _ h => .inl h
theorem MrV.stepBelow {v1 : Value} (h : MrV g w v b) (hs : MkStep g w w' v v1) : Below g w w' := hs.below (Nat.le_of_lt h.blk.lt) h.ge
end
set_option maxRecDepth 100000 in
set_option maxHeartbeats 1000000 in
theorem rmNum_any (g : Nat) (v : Value) (n : Nat) (b : List UInt8) (w : World) (hn : n ≤ 1099511627776) (hb : b.length ≤ 16777216) (hm : MrV g w v b) :
    Calls Tryz.prog 45 #[.pointer (some ⟨g, 0, none⟩), .int .i64 (n : Int)] w fun e w' => (∃ r, e = .returned r) ∧ ∃ v', MrV g w' v' (b ++ encN n) ∧ MkStep g w w' v v' := by
  have hlo : ¬ (n : Int) < 0 := by omega
  have hhi : ¬ (1099511627776 : Int) < (n : Int) := by omega
  have HEN := Lib.hid (enters_of Tryz.func84 (by kernel_rfl) rfl : ∀ args w, (callFunc 84 args).run Tryz.prog w = .ok (.enter 84 args) w)
  have HD := Lib.hid ((Below.refl w.heap.size w).drew)
  have HM := Lib.hid hm
  have HLDa := Lib.hid (hm.below HD.out).load.now
  clear hm
  go_enter Tryz.func45, Tryz.ntmps45
  go_wp2_with fail
  try simp only [Act.put, List.setIfInBounds_toArray, List.set_cons_succ, List.set_cons_zero]
  refine wp_region_any (by kernel_rfl) ?_
  refine Agg.any_take 0 (.pointer (some ⟨g, 0, none⟩)) rfl (by kernel_rfl) (fun _ _ _ h => h) rfl (fun W => by kernel_rfl) ?_
  try simp only [Act.put, List.setIfInBounds_toArray, List.set_cons_succ, List.set_cons_zero]
  refine Agg.any_take 1 (.pointer (some ⟨g, 0, none⟩)) rfl (by kernel_rfl) (fun _ _ _ h => h) rfl (fun W => by kernel_rfl) ?_
  try simp only [Act.put, List.setIfInBounds_toArray, List.set_cons_succ, List.set_cons_zero]
  refine Agg.any_take 2 (.pointer (some ⟨g, 0, none⟩)) rfl (by kernel_rfl) (fun _ _ _ h => h) rfl (fun W => by kernel_rfl) ?_
  try simp only [Act.put, List.setIfInBounds_toArray, List.set_cons_succ, List.set_cons_zero]
  refine Agg.any_take 3 (.pointer (some ⟨g, 0, none⟩)) rfl (by kernel_rfl) (fun _ _ _ h => h) rfl (fun W => by kernel_rfl) ?_
  try simp only [Act.put, List.setIfInBounds_toArray, List.set_cons_succ, List.set_cons_zero]
  refine Agg.any_take 5 (.int .i64 (n : Int)) rfl (by kernel_rfl) (fun _ _ _ h => h) rfl (fun W => by kernel_rfl) ?_
  try simp only [Act.put, List.setIfInBounds_toArray, List.set_cons_succ, List.set_cons_zero]
  refine Agg.any_ready [4, 6] (by kernel_rfl) (by simp) ?_
  refine Agg.any_cons rfl ?_ ?_
  · refine Agg.step_load rfl 23 _ rfl _ v rfl HLDa.out ?_
    try simp only [Act.put, List.setIfInBounds_toArray, List.set_cons_succ, List.set_cons_zero]
    refine Agg.any_ready [6] (by kernel_rfl) (by simp) ?_
    refine Agg.any_cons rfl ?_ ?_
    · refine Agg.step_call rfl 84 _ _ rfl #[.int .i64 (n : Int)] (by simp only [List.map_toArray, List.map_cons, List.map_nil]; rfl) (fun W => HEN.out _ W) ?_
      refine (refNumber_any n _ (by omega)).mono ?_
      rintro e w2 ⟨u, rfl, hu, hx⟩
      have HX := Lib.hid (Agg.belowThen HD.out (Nat.le_refl _) hx)
      have HU := Lib.hid hu.slice
      have HM2 := Lib.hid (HM.out.below HX.out)
      have HLDb := Lib.hid HM2.out.load.now
      clear hu hx
      refine ⟨_, rfl, ?_⟩
      try simp only [Act.put, List.setIfInBounds_toArray, List.set_cons_succ, List.set_cons_zero]
      refine Agg.any_ready [7] (by kernel_rfl) (by simp) ?_
      refine Agg.any_cons rfl ?_ ?_
      · refine Agg.step_appendO (E := EB) (base := g + 1) rfl _ _ rfl u rfl rfl (encN n) HM2.out.own HU.out (by have := encN_len hn; omega) (by decide) HM2.out.blk.lt ?_
        intro v3 w3 ho3 hp3 hg3
        obtain ⟨w4, hrun, hmk, hst⟩ := MrV.put HM2.out ho3 hp3 hg3
        have HMK := Lib.hid hmk
        have HST := Lib.hid hst
        clear hmk hst ho3 hp3 hg3
        try simp only [Act.put, List.setIfInBounds_toArray, List.set_cons_succ, List.set_cons_zero]
        refine Agg.any_take 8 (.pointer (some ⟨g, 0, none⟩)) rfl (by kernel_rfl) (fun _ _ _ h => h) rfl (fun W => by kernel_rfl) ?_
        try simp only [Act.put, List.setIfInBounds_toArray, List.set_cons_succ, List.set_cons_zero]
        refine Agg.any_take 9 (.pointer (some ⟨g, 0, none⟩)) rfl (by kernel_rfl) (fun _ _ _ h => h) rfl (fun W => by kernel_rfl) ?_
        try simp only [Act.put, List.setIfInBounds_toArray, List.set_cons_succ, List.set_cons_zero]
        refine Agg.any_ready [10] (by kernel_rfl) (by simp) ?_
        refine Agg.any_cons rfl ?_ ?_
        · refine Agg.step_store rfl rfl 23 _ _ rfl (.pointer (some ⟨g, 0, none⟩)) _ rfl rfl hrun ?_
          clear hrun
          try simp only [Act.put, List.setIfInBounds_toArray, List.set_cons_succ, List.set_cons_zero]
          refine Agg.any_end (by kernel_rfl) ?_
          refine bodyPost_end (results_none rfl _ _ _) rfl ?_
          exact ⟨⟨_, rfl⟩, v3, HMK.out, (MkStep.of_below HX.out).trans HST.out⟩
        exact AllReady.nil
      exact AllReady.nil
    exact AllReady.nil
  refine Agg.any_cons rfl ?_ ?_
  · refine Agg.step_call rfl 84 _ _ rfl #[.int .i64 (n : Int)] (by simp only [List.map_toArray, List.map_cons, List.map_nil]; rfl) (fun W => HEN.out _ W) ?_
    refine (refNumber_any n _ (by omega)).mono ?_
    rintro e w2 ⟨u, rfl, hu, hx⟩
    have HX := Lib.hid (Agg.belowThen HD.out (Nat.le_refl _) hx)
    have HU := Lib.hid hu.slice
    have HM2 := Lib.hid (HM.out.below HX.out)
    have HLDb := Lib.hid HM2.out.load.now
    clear hu hx
    refine ⟨_, rfl, ?_⟩
    try simp only [Act.put, List.setIfInBounds_toArray, List.set_cons_succ, List.set_cons_zero]
    refine Agg.any_ready [4] (by kernel_rfl) (by simp) ?_
    refine Agg.any_cons rfl ?_ ?_
    · refine Agg.step_load rfl 23 _ rfl _ v rfl HLDb.out ?_
      try simp only [Act.put, List.setIfInBounds_toArray, List.set_cons_succ, List.set_cons_zero]
      refine Agg.any_ready [7] (by kernel_rfl) (by simp) ?_
      refine Agg.any_cons rfl ?_ ?_
      · refine Agg.step_appendO (E := EB) (base := g + 1) rfl _ _ rfl u rfl rfl (encN n) HM2.out.own HU.out (by have := encN_len hn; omega) (by decide) HM2.out.blk.lt ?_
        intro v3 w3 ho3 hp3 hg3
        obtain ⟨w4, hrun, hmk, hst⟩ := MrV.put HM2.out ho3 hp3 hg3
        have HMK := Lib.hid hmk
        have HST := Lib.hid hst
        clear hmk hst ho3 hp3 hg3
        try simp only [Act.put, List.setIfInBounds_toArray, List.set_cons_succ, List.set_cons_zero]
        refine Agg.any_take 8 (.pointer (some ⟨g, 0, none⟩)) rfl (by kernel_rfl) (fun _ _ _ h => h) rfl (fun W => by kernel_rfl) ?_
        try simp only [Act.put, List.setIfInBounds_toArray, List.set_cons_succ, List.set_cons_zero]
        refine Agg.any_take 9 (.pointer (some ⟨g, 0, none⟩)) rfl (by kernel_rfl) (fun _ _ _ h => h) rfl (fun W => by kernel_rfl) ?_
        try simp only [Act.put, List.setIfInBounds_toArray, List.set_cons_succ, List.set_cons_zero]
        refine Agg.any_ready [10] (by kernel_rfl) (by simp) ?_
        refine Agg.any_cons rfl ?_ ?_
        · refine Agg.step_store rfl rfl 23 _ _ rfl (.pointer (some ⟨g, 0, none⟩)) _ rfl rfl hrun ?_
          clear hrun
          try simp only [Act.put, List.setIfInBounds_toArray, List.set_cons_succ, List.set_cons_zero]
          refine Agg.any_end (by kernel_rfl) ?_
          refine bodyPost_end (results_none rfl _ _ _) rfl ?_
          exact ⟨⟨_, rfl⟩, v3, HMK.out, (MkStep.of_below HX.out).trans HST.out⟩
        exact AllReady.nil
      exact AllReady.nil
    exact AllReady.nil
  exact AllReady.nil
set_option maxRecDepth 100000 in
set_option maxHeartbeats 1000000 in
theorem rmRaw_any (g : Nat) (v x : Value) (l b : List UInt8) (w : World) (hb : b.length ≤ 16777216) (hl : l.length ≤ 16777216) (hx : SliceOf EB w x l) (hm : MrV g w v b) :
    Calls Tryz.prog 49 #[.pointer (some ⟨g, 0, none⟩), x] w fun e w' => (∃ r, e = .returned r) ∧ ∃ v', MrV g w' v' (b ++ l) ∧ MkStep g w w' v v' := by
  have HM := Lib.hid hm
  have HX := Lib.hid hx
  have HO := Lib.hid hm.own
  have h63 : b.length + l.length ≤ 1099511627776 / 8 := by omega
  have hbase : g + 1 ≤ w.heap.size := hm.blk.lt
  clear hm hx
  go_enter Tryz.func49, Tryz.ntmps49
  go_wp2_with (first | (with_reducible refine Agg.wpList_loadL HM.out.load rfl _ rfl rfl ?_) | (refine Agg.wpList_appendO (E := EB) (base := g + 1) rfl _ _ rfl x rfl rfl l HO.out HX.out h63 (by decide) hbase ?_; intro v1 w2 ho1 hp1 hgr1; obtain ⟨w3, hrun, hmk, hst⟩ := MrV.put HM.out ho1 hp1 hgr1; have HMK := Lib.hid hmk; have HST := Lib.hid hst; clear ho1 hp1 hgr1 hmk hst) | (refine Agg.wpList_store rfl rfl 23 _ _ rfl (.pointer (some ⟨g, 0, none⟩)) _ rfl rfl hrun ?_))
  refine bodyPost_end (results_none rfl _ _ _) rfl ?_
  exact ⟨⟨_, rfl⟩, v1, HMK.out, HST.out⟩
set_option maxRecDepth 100000 in
set_option maxHeartbeats 1000000 in
theorem rmText_any (g : Nat) (v x : Value) (l b : List UInt8) (w : World) (hb : b.length ≤ 4194304) (hl : l.length ≤ 1048576) (hx : Off EB g w v x l) (hm : MrV g w v b) :
    Calls Tryz.prog 47 #[.pointer (some ⟨g, 0, none⟩), x] w fun e w' => (∃ r, e = .returned r) ∧ ∃ v', MrV g w' v' (b ++ (encN l.length ++ l)) ∧ MkStep g w w' v v' := by
  have HM := Lib.hid hm
  have HX := Lib.hid hx
  have hlx := fun W => bytes_len hx.slice W
  have hhi : ¬ (1048576 : Int) < (l.length : Int) := by omega
  have hen := encN_len (n := l.length) (by omega)
  clear hm hx
  go_enter Tryz.func47, Tryz.ntmps47
  go_wp2_with fail
  refine (rmNum_any g v l.length b _ (by omega) (by omega) HM.out).mono ?_
  rintro e w1 ⟨⟨r, rfl⟩, v1, hm1, hs1⟩
  have HM1 := Lib.hid hm1
  have HS1 := Lib.hid hs1
  have HX1 := Lib.hid (HX.out.step hs1)
  clear hm1 hs1
  go_wp2_with fail
  refine (rmRaw_any g v1 x l (b ++ encN l.length) _ (by simp only [List.length_append]; omega) (by omega) HX1.out.slice HM1.out).mono ?_
  rintro e w2 ⟨⟨r2, rfl⟩, v2, hm2, hs2⟩
  have HM2 := Lib.hid hm2
  have HS2 := Lib.hid (HS1.out.trans hs2)
  clear hm2 hs2
  go_wp2_with fail
  refine bodyPost_end (results_none rfl _ _ _) rfl ?_
  exact ⟨⟨_, rfl⟩, v2, by rw [← List.append_assoc]; exact HM2.out, HS2.out⟩
set_option maxRecDepth 100000 in
set_option maxHeartbeats 1000000 in
theorem rmDone_any (g : Nat) (v : Value) (b : List UInt8) (w : World) (hb : b.length ≤ 33554432) (hm : MrV g w v b) :
    Calls Tryz.prog 50 #[.pointer (some ⟨g, 0, none⟩)] w fun e w' => ∃ v', e = .returned (.tuple #[v', .int .i64 0]) ∧ Own EB w.heap.size w' v' b ∧ Below w.heap.size w w' := by
  have HM := Lib.hid hm
  clear hm
  go_enter Tryz.func50, Tryz.ntmps50
  go_wp2_with (first | (with_reducible refine Agg.wpList_loadL HM.out.bad rfl _ rfl rfl ?_) | (refine Agg.wpList_slice0 (base := w.heap.size) EB rfl rfl (Nat.le_refl _) ?_; intro v0 w1 ho1 hx1 hne1; have HO1 := Lib.hid ho1; have HX1 := Lib.hid hx1; have HM1 := Lib.hid (HM.out.below hx1); have hsz1 := hx1.size; clear ho1 hx1 hne1) | (with_reducible refine Agg.wpList_loadL HM1.out.load rfl _ rfl rfl ?_) | (refine Agg.wpList_appendS (E := EB) (base := w.heap.size) rfl _ _ rfl v rfl rfl b HO1.out HM1.out.own.slice (by simp; omega) (by decide) hsz1 ?_; intro v2 w2 ho2 hp2 hne2; have HO2 := Lib.hid ho2; have HX2 := Lib.hid (HX1.out.trans (hp2.below w.heap.size (Nat.le_refl _) hsz1)); clear ho2 hp2 hne2))
  go_ret2
  exact ⟨_, rfl, by simpa using HO2.out, HX2.out⟩
end Go.Proofs.YtpnolgliklmnmaaGreat
/-! spenceref28.Put of any request. -/
namespace Go.Proofs.YtpnolgliklmnmaaGreat
open Go.RowKit Pl Go.Agg
set_option maxRecDepth 100000 in
set_option maxHeartbeats 4000000 in
theorem refPut_34 (k u wh : Nat) (nm : List UInt8) (vb : Value) (bs ph pn ch : List UInt8) (hP : partsN k = 34) (hl : ph.length = 20) (hc : ch.length = 20) (hk : k ≤ 10) (hu : u ≤ 8) (hwh : wh ≤ 16) (hnm : nm.length ≤ 24) (hpn : pn.length ≤ 1048576) (hbs : bs.length ≤ 4096)
    (hr : rightN k u wh nm bs.length ph pn ch = true) (w : World) (hb : BytesAt w vb bs) :
    Calls Tryz.prog 10 #[.agg (rqG k u wh nm vb ph pn ch)] w fun e w' => ∃ v', e = .returned (.tuple #[v', .int .i64 0]) ∧ Own EB w.heap.size w' v' (putRq ⟨k, u, wh, nm, bs, ph, pn, ch⟩) ∧ Below w.heap.size w w' := by
  have HBLD := Lib.hid (fun W => (by kernel_rfl : (Instr.build 81 #[]).run Tryz.prog W = .ok (.agg (mkC (.slice none 0 0))) W))
  have HWD := Lib.hid (fun W => (show Calls Tryz.prog 44 #[.int .i64 k] W fun e w' => e = .returned (.string ⟨([110, 98] : List UInt8).toArray⟩) ∧ w' = W by have := refHas_any k W; rwa [hP] at this))
  have HPE := Lib.hid hP
  have HRT := Lib.hid (fun W (h : BytesAt W vb bs) => (show Calls Tryz.prog 14 #[.agg (rqG k u wh nm vb ph pn ch)] W fun e w' => e = .returned (.bool true) ∧ Below W.heap.size W w' by have := refRight_any k u wh nm vb bs ph pn ch hl hc (by omega) hpn W h; rwa [hr] at this))
  have HBY := Lib.hid hb
  have hek := encN_len (n := k) (by omega)
  have heu := encN_len (n := u) (by omega)
  have hew := encN_len (n := wh) (by omega)
  have HEN := Lib.hid (encN_len (n := nm.length) (by omega))
  have HEB := Lib.hid (encN_len (n := bs.length) (by omega))
  have hpl := pathS_le (n := pn) ph
  have HEP := Lib.hid (encN_len (n := (pathS ph pn).length) (by omega))
  clear hP hr hb
  go_enter Tryz.func10, Tryz.ntmps10
  go_wp2_with (first | (with_reducible refine Agg.wpList_box rfl 29 _ rfl (rqG k u wh nm vb ph pn ch) rfl ?_; intro g w1 hb1 hx1 hg; have HL := Lib.hid (RqG.of_blk hb1 hl hc); have HB := Lib.hid hb1; have HW := Lib.hid hx1; clear hb1 hx1 hg) | (with_reducible refine Agg.wpList_loadL HL.out.all rfl _ rfl rfl ?_))
  refine (HRT.out _ (HBY.out.below HW.out)).mono ?_
  rintro e w2 ⟨rfl, hx2⟩
  have HL := Lib.hid (HL.out.below hx2)
  have HB := Lib.hid (HB.out.below hx2)
  have HW := Lib.hid (Agg.belowThen HW.out (Nat.le_refl _) hx2)
  clear hx2
  go_wp2_with (first | (with_reducible refine Agg.wpList_loadL HL.out.kind rfl _ rfl rfl ?_))
  refine (HWD.out _).mono ?_
  rintro e w3 ⟨rfl, rfl⟩
  have hsz := HW.out.size
  have HBY := Lib.hid (HBY.out.below HW.out)
  go_wp2_with (first | (with_reducible refine Agg.wpList_build0 81 rfl rfl (.agg (mkC (.slice none 0 0))) HBLD.out ?_) | (with_reducible refine Agg.wpList_box rfl 81 _ rfl (mkC (.slice none 0 0)) rfl ?_; intro g4 w4 hb4 hx4 hg4; have hlt4 := hb4.lt; have HM := Lib.hid (⟨hb4, Own.nil _ _ _⟩ : MrV g4 w4 (.slice none 0 0) []); have HK := Lib.hid hx4; have HLK := Lib.hid (HL.out.below hx4); clear hb4 hx4) | (with_reducible refine Agg.wpList_loadL HLK.out.kind rfl _ rfl rfl ?_))
  have HM0 := HM
  refine (rmNum_any g4 (.slice none 0 0) k ([] : List UInt8) _ (by omega) (by simp only [List.length_nil]; omega) HM.out).mono ?_
  rintro e w5 ⟨⟨r, rfl⟩, v5, hm, hs⟩
  have HK := Lib.hid (HK.out.trans ((HM0.out.stepBelow hs).mono hg4))
  have HM := Lib.hid (show MrV g4 w5 v5 (encN k) from (by simpa using hm))
  have HV := Lib.hid (show ∀ k, v5.ownBlock = some k → w3.heap.size ≤ k from fun k hk => by have := HM.out.ge k hk; omega)
  have HLK := Lib.hid (HL.out.below HK.out)
  clear hm hs HM0
  go_wp2_with (first | (with_reducible refine Agg.wpList_loadL HLK.out.user rfl _ rfl rfl ?_))
  have HM0 := HM
  refine (rmNum_any g4 v5 u (encN k) _ (by omega) (by omega) HM.out).mono ?_
  rintro e w6 ⟨⟨r, rfl⟩, v6, hm, hs⟩
  have HK := Lib.hid (HK.out.trans ((HM0.out.stepBelow hs).mono hg4))
  have HM := Lib.hid (show MrV g4 w6 v6 ((encN k) ++ encN u) from hm)
  have HV := Lib.hid (show ∀ k, v6.ownBlock = some k → w3.heap.size ≤ k from fun k hk => by have := HM.out.ge k hk; omega)
  have HLK := Lib.hid (HL.out.below HK.out)
  clear hm hs HM0
  go_wp2_with fail
  refine (refIn_is (s := [110, 98]) (c := 119) (b := false) (by decide) (by decide) (by omega) _).mono ?_
  rintro e w7 ⟨rfl, rfl⟩
  go_wp2_with fail
  refine (refIn_is (s := [110, 98]) (c := 110) (b := true) (by decide) (by decide) (by omega) _).mono ?_
  rintro e w8 ⟨rfl, rfl⟩
  go_wp2_with (first | (with_reducible refine Agg.wpList_loadL HLK.out.name rfl _ rfl rfl ?_) | (with_reducible refine wpList_toBytes nm _ rfl (by kernel_rfl) rfl ?_; intro x9 w9 hn hx; have HN := Lib.hid hn; have HX := Lib.hid hx; clear hn hx))
  have HM0 := Lib.hid (HM.out.below HX.out)
  refine (rmText_any g4 v6 x9 nm _ w9 (by simp only [List.length_append]; omega) (by omega) (Off.behind (w0 := w8) HN.out.slice (newBytes_own HN.out) HM.out.blk.lt HM.out.lt) HM0.out).mono ?_
  rintro e w10 ⟨⟨r, rfl⟩, v10, hm, hs⟩
  have HK := Lib.hid (Agg.belowThen HK.out (Nat.le_refl _) HX.out)
  clear HX HN
  have HK := Lib.hid (HK.out.trans ((HM0.out.stepBelow hs).mono hg4))
  have HM := Lib.hid (show MrV g4 w10 v10 (((encN k) ++ encN u) ++ (encN nm.length ++ nm)) from hm)
  have HV := Lib.hid (show ∀ k, v10.ownBlock = some k → w3.heap.size ≤ k from fun k hk => by have := HM.out.ge k hk; omega)
  have HLK := Lib.hid (HL.out.below HK.out)
  clear hm hs HM0
  have hen := HEN.out
  go_wp2_with fail
  refine (refIn_is (s := [110, 98]) (c := 112) (b := false) (by decide) (by decide) (by omega) _).mono ?_
  rintro e w11 ⟨rfl, rfl⟩
  go_wp2_with fail
  refine (refIn_is (s := [110, 98]) (c := 122) (b := false) (by decide) (by decide) (by omega) _).mono ?_
  rintro e w12 ⟨rfl, rfl⟩
  go_wp2_with fail
  refine (refIn_is (s := [110, 98]) (c := 99) (b := false) (by decide) (by decide) (by omega) _).mono ?_
  rintro e w13 ⟨rfl, rfl⟩
  go_wp2_with fail
  refine (refIn_is (s := [110, 98]) (c := 98) (b := true) (by decide) (by decide) (by omega) _).mono ?_
  rintro e w14 ⟨rfl, rfl⟩
  go_wp2_with (first | (with_reducible refine Agg.wpList_loadL HLK.out.bytes rfl _ rfl rfl ?_))
  have HM0 := HM
  refine (rmText_any g4 v10 vb bs _ w14 (by simp only [List.length_append]; omega) (by omega) (Off.before (w0 := w3) HBY.out HK.out hg4 HV.out) HM0.out).mono ?_
  rintro e w15 ⟨⟨r, rfl⟩, v15, hm, hs⟩
  have HK := Lib.hid (HK.out.trans ((HM0.out.stepBelow hs).mono hg4))
  have HM := Lib.hid (show MrV g4 w15 v15 ((((encN k) ++ encN u) ++ (encN nm.length ++ nm)) ++ (encN bs.length ++ bs)) from hm)
  have HV := Lib.hid (show ∀ k, v15.ownBlock = some k → w3.heap.size ≤ k from fun k hk => by have := HM.out.ge k hk; omega)
  have HLK := Lib.hid (HL.out.below HK.out)
  clear hm hs HM0
  have heb := HEB.out
  have HE := Lib.hid (show ((((encN k) ++ encN u) ++ (encN nm.length ++ nm)) ++ (encN bs.length ++ bs)) = putRq ⟨k, u, wh, nm, bs, ph, pn, ch⟩ by
    unfold putRq
    simp only [HPE.out]
    unfold putP
    simp only [show hasN 34 1 = false from by decide, show hasN 34 2 = true from by decide, show hasN 34 12 = false from by decide, show hasN 34 16 = false from by decide, show hasN 34 32 = true from by decide, encT, if_true, Bool.false_eq_true, if_false, Int.toNat_natCast, List.append_assoc, List.nil_append])
  have HKK := Lib.hid (Agg.belowThen HW.out (Nat.le_refl _) HK.out)
  have hszw := HKK.out.size
  go_wp2_with fail
  refine (rmDone_any g4 v15 _ _ (by simp only [List.length_append]; omega) HM.out).mono ?_
  rintro e w99 ⟨v99, rfl, ho7, hx7⟩
  rw [HE.out] at ho7
  have HO7 := Lib.hid (ho7.lower hszw)
  have HW7 := Lib.hid (Agg.belowThen HKK.out (Nat.le_refl _) hx7)
  clear ho7 hx7
  go_wp2_with fail
  go_ret2
  exact ⟨_, rfl, HO7.out, HW7.out⟩
set_option maxRecDepth 100000 in
set_option maxHeartbeats 4000000 in
theorem refPut_32 (k u wh : Nat) (nm : List UInt8) (vb : Value) (bs ph pn ch : List UInt8) (hP : partsN k = 32) (hl : ph.length = 20) (hc : ch.length = 20) (hk : k ≤ 10) (hu : u ≤ 8) (hwh : wh ≤ 16) (hnm : nm.length ≤ 24) (hpn : pn.length ≤ 1048576) (hbs : bs.length ≤ 4096)
    (hr : rightN k u wh nm bs.length ph pn ch = true) (w : World) (hb : BytesAt w vb bs) :
    Calls Tryz.prog 10 #[.agg (rqG k u wh nm vb ph pn ch)] w fun e w' => ∃ v', e = .returned (.tuple #[v', .int .i64 0]) ∧ Own EB w.heap.size w' v' (putRq ⟨k, u, wh, nm, bs, ph, pn, ch⟩) ∧ Below w.heap.size w w' := by
  have HBLD := Lib.hid (fun W => (by kernel_rfl : (Instr.build 81 #[]).run Tryz.prog W = .ok (.agg (mkC (.slice none 0 0))) W))
  have HWD := Lib.hid (fun W => (show Calls Tryz.prog 44 #[.int .i64 k] W fun e w' => e = .returned (.string ⟨([98] : List UInt8).toArray⟩) ∧ w' = W by have := refHas_any k W; rwa [hP] at this))
  have HPE := Lib.hid hP
  have HRT := Lib.hid (fun W (h : BytesAt W vb bs) => (show Calls Tryz.prog 14 #[.agg (rqG k u wh nm vb ph pn ch)] W fun e w' => e = .returned (.bool true) ∧ Below W.heap.size W w' by have := refRight_any k u wh nm vb bs ph pn ch hl hc (by omega) hpn W h; rwa [hr] at this))
  have HBY := Lib.hid hb
  have hek := encN_len (n := k) (by omega)
  have heu := encN_len (n := u) (by omega)
  have hew := encN_len (n := wh) (by omega)
  have HEN := Lib.hid (encN_len (n := nm.length) (by omega))
  have HEB := Lib.hid (encN_len (n := bs.length) (by omega))
  have hpl := pathS_le (n := pn) ph
  have HEP := Lib.hid (encN_len (n := (pathS ph pn).length) (by omega))
  clear hP hr hb
  go_enter Tryz.func10, Tryz.ntmps10
  go_wp2_with (first | (with_reducible refine Agg.wpList_box rfl 29 _ rfl (rqG k u wh nm vb ph pn ch) rfl ?_; intro g w1 hb1 hx1 hg; have HL := Lib.hid (RqG.of_blk hb1 hl hc); have HB := Lib.hid hb1; have HW := Lib.hid hx1; clear hb1 hx1 hg) | (with_reducible refine Agg.wpList_loadL HL.out.all rfl _ rfl rfl ?_))
  refine (HRT.out _ (HBY.out.below HW.out)).mono ?_
  rintro e w2 ⟨rfl, hx2⟩
  have HL := Lib.hid (HL.out.below hx2)
  have HB := Lib.hid (HB.out.below hx2)
  have HW := Lib.hid (Agg.belowThen HW.out (Nat.le_refl _) hx2)
  clear hx2
  go_wp2_with (first | (with_reducible refine Agg.wpList_loadL HL.out.kind rfl _ rfl rfl ?_))
  refine (HWD.out _).mono ?_
  rintro e w3 ⟨rfl, rfl⟩
  have hsz := HW.out.size
  have HBY := Lib.hid (HBY.out.below HW.out)
  go_wp2_with (first | (with_reducible refine Agg.wpList_build0 81 rfl rfl (.agg (mkC (.slice none 0 0))) HBLD.out ?_) | (with_reducible refine Agg.wpList_box rfl 81 _ rfl (mkC (.slice none 0 0)) rfl ?_; intro g4 w4 hb4 hx4 hg4; have hlt4 := hb4.lt; have HM := Lib.hid (⟨hb4, Own.nil _ _ _⟩ : MrV g4 w4 (.slice none 0 0) []); have HK := Lib.hid hx4; have HLK := Lib.hid (HL.out.below hx4); clear hb4 hx4) | (with_reducible refine Agg.wpList_loadL HLK.out.kind rfl _ rfl rfl ?_))
  have HM0 := HM
  refine (rmNum_any g4 (.slice none 0 0) k ([] : List UInt8) _ (by omega) (by simp only [List.length_nil]; omega) HM.out).mono ?_
  rintro e w5 ⟨⟨r, rfl⟩, v5, hm, hs⟩
  have HK := Lib.hid (HK.out.trans ((HM0.out.stepBelow hs).mono hg4))
  have HM := Lib.hid (show MrV g4 w5 v5 (encN k) from (by simpa using hm))
  have HV := Lib.hid (show ∀ k, v5.ownBlock = some k → w3.heap.size ≤ k from fun k hk => by have := HM.out.ge k hk; omega)
  have HLK := Lib.hid (HL.out.below HK.out)
  clear hm hs HM0
  go_wp2_with (first | (with_reducible refine Agg.wpList_loadL HLK.out.user rfl _ rfl rfl ?_))
  have HM0 := HM
  refine (rmNum_any g4 v5 u (encN k) _ (by omega) (by omega) HM.out).mono ?_
  rintro e w6 ⟨⟨r, rfl⟩, v6, hm, hs⟩
  have HK := Lib.hid (HK.out.trans ((HM0.out.stepBelow hs).mono hg4))
  have HM := Lib.hid (show MrV g4 w6 v6 ((encN k) ++ encN u) from hm)
  have HV := Lib.hid (show ∀ k, v6.ownBlock = some k → w3.heap.size ≤ k from fun k hk => by have := HM.out.ge k hk; omega)
  have HLK := Lib.hid (HL.out.below HK.out)
  clear hm hs HM0
  go_wp2_with fail
  refine (refIn_is (s := [98]) (c := 119) (b := false) (by decide) (by decide) (by omega) _).mono ?_
  rintro e w7 ⟨rfl, rfl⟩
  go_wp2_with fail
  refine (refIn_is (s := [98]) (c := 110) (b := false) (by decide) (by decide) (by omega) _).mono ?_
  rintro e w8 ⟨rfl, rfl⟩
  go_wp2_with fail
  refine (refIn_is (s := [98]) (c := 112) (b := false) (by decide) (by decide) (by omega) _).mono ?_
  rintro e w9 ⟨rfl, rfl⟩
  go_wp2_with fail
  refine (refIn_is (s := [98]) (c := 122) (b := false) (by decide) (by decide) (by omega) _).mono ?_
  rintro e w10 ⟨rfl, rfl⟩
  go_wp2_with fail
  refine (refIn_is (s := [98]) (c := 99) (b := false) (by decide) (by decide) (by omega) _).mono ?_
  rintro e w11 ⟨rfl, rfl⟩
  go_wp2_with fail
  refine (refIn_is (s := [98]) (c := 98) (b := true) (by decide) (by decide) (by omega) _).mono ?_
  rintro e w12 ⟨rfl, rfl⟩
  go_wp2_with (first | (with_reducible refine Agg.wpList_loadL HLK.out.bytes rfl _ rfl rfl ?_))
  have HM0 := HM
  refine (rmText_any g4 v6 vb bs _ w12 (by simp only [List.length_append]; omega) (by omega) (Off.before (w0 := w3) HBY.out HK.out hg4 HV.out) HM0.out).mono ?_
  rintro e w13 ⟨⟨r, rfl⟩, v13, hm, hs⟩
  have HK := Lib.hid (HK.out.trans ((HM0.out.stepBelow hs).mono hg4))
  have HM := Lib.hid (show MrV g4 w13 v13 (((encN k) ++ encN u) ++ (encN bs.length ++ bs)) from hm)
  have HV := Lib.hid (show ∀ k, v13.ownBlock = some k → w3.heap.size ≤ k from fun k hk => by have := HM.out.ge k hk; omega)
  have HLK := Lib.hid (HL.out.below HK.out)
  clear hm hs HM0
  have heb := HEB.out
  have HE := Lib.hid (show (((encN k) ++ encN u) ++ (encN bs.length ++ bs)) = putRq ⟨k, u, wh, nm, bs, ph, pn, ch⟩ by
    unfold putRq
    simp only [HPE.out]
    unfold putP
    simp only [show hasN 32 1 = false from by decide, show hasN 32 2 = false from by decide, show hasN 32 12 = false from by decide, show hasN 32 16 = false from by decide, show hasN 32 32 = true from by decide, encT, if_true, Bool.false_eq_true, if_false, Int.toNat_natCast, List.append_assoc, List.nil_append])
  have HKK := Lib.hid (Agg.belowThen HW.out (Nat.le_refl _) HK.out)
  have hszw := HKK.out.size
  go_wp2_with fail
  refine (rmDone_any g4 v13 _ _ (by simp only [List.length_append]; omega) HM.out).mono ?_
  rintro e w99 ⟨v99, rfl, ho7, hx7⟩
  rw [HE.out] at ho7
  have HO7 := Lib.hid (ho7.lower hszw)
  have HW7 := Lib.hid (Agg.belowThen HKK.out (Nat.le_refl _) hx7)
  clear ho7 hx7
  go_wp2_with fail
  go_ret2
  exact ⟨_, rfl, HO7.out, HW7.out⟩
set_option maxRecDepth 100000 in
set_option maxHeartbeats 4000000 in
theorem refPut_16 (k u wh : Nat) (nm : List UInt8) (vb : Value) (bs ph pn ch : List UInt8) (hP : partsN k = 16) (hl : ph.length = 20) (hc : ch.length = 20) (hk : k ≤ 10) (hu : u ≤ 8) (hwh : wh ≤ 16) (hnm : nm.length ≤ 24) (hpn : pn.length ≤ 1048576) (hbs : bs.length ≤ 4096)
    (hr : rightN k u wh nm bs.length ph pn ch = true) (w : World) (hb : BytesAt w vb bs) :
    Calls Tryz.prog 10 #[.agg (rqG k u wh nm vb ph pn ch)] w fun e w' => ∃ v', e = .returned (.tuple #[v', .int .i64 0]) ∧ Own EB w.heap.size w' v' (putRq ⟨k, u, wh, nm, bs, ph, pn, ch⟩) ∧ Below w.heap.size w w' := by
  have HBLD := Lib.hid (fun W => (by kernel_rfl : (Instr.build 81 #[]).run Tryz.prog W = .ok (.agg (mkC (.slice none 0 0))) W))
  have HWD := Lib.hid (fun W => (show Calls Tryz.prog 44 #[.int .i64 k] W fun e w' => e = .returned (.string ⟨([99] : List UInt8).toArray⟩) ∧ w' = W by have := refHas_any k W; rwa [hP] at this))
  have HPE := Lib.hid hP
  have HRT := Lib.hid (fun W (h : BytesAt W vb bs) => (show Calls Tryz.prog 14 #[.agg (rqG k u wh nm vb ph pn ch)] W fun e w' => e = .returned (.bool true) ∧ Below W.heap.size W w' by have := refRight_any k u wh nm vb bs ph pn ch hl hc (by omega) hpn W h; rwa [hr] at this))
  have HBY := Lib.hid hb
  have hek := encN_len (n := k) (by omega)
  have heu := encN_len (n := u) (by omega)
  have hew := encN_len (n := wh) (by omega)
  have HEN := Lib.hid (encN_len (n := nm.length) (by omega))
  have HEB := Lib.hid (encN_len (n := bs.length) (by omega))
  have hpl := pathS_le (n := pn) ph
  have HEP := Lib.hid (encN_len (n := (pathS ph pn).length) (by omega))
  clear hP hr hb
  go_enter Tryz.func10, Tryz.ntmps10
  go_wp2_with (first | (with_reducible refine Agg.wpList_box rfl 29 _ rfl (rqG k u wh nm vb ph pn ch) rfl ?_; intro g w1 hb1 hx1 hg; have HL := Lib.hid (RqG.of_blk hb1 hl hc); have HB := Lib.hid hb1; have HW := Lib.hid hx1; clear hb1 hx1 hg) | (with_reducible refine Agg.wpList_loadL HL.out.all rfl _ rfl rfl ?_))
  refine (HRT.out _ (HBY.out.below HW.out)).mono ?_
  rintro e w2 ⟨rfl, hx2⟩
  have HL := Lib.hid (HL.out.below hx2)
  have HB := Lib.hid (HB.out.below hx2)
  have HW := Lib.hid (Agg.belowThen HW.out (Nat.le_refl _) hx2)
  clear hx2
  go_wp2_with (first | (with_reducible refine Agg.wpList_loadL HL.out.kind rfl _ rfl rfl ?_))
  refine (HWD.out _).mono ?_
  rintro e w3 ⟨rfl, rfl⟩
  have hsz := HW.out.size
  have HBY := Lib.hid (HBY.out.below HW.out)
  go_wp2_with (first | (with_reducible refine Agg.wpList_build0 81 rfl rfl (.agg (mkC (.slice none 0 0))) HBLD.out ?_) | (with_reducible refine Agg.wpList_box rfl 81 _ rfl (mkC (.slice none 0 0)) rfl ?_; intro g4 w4 hb4 hx4 hg4; have hlt4 := hb4.lt; have HM := Lib.hid (⟨hb4, Own.nil _ _ _⟩ : MrV g4 w4 (.slice none 0 0) []); have HK := Lib.hid hx4; have HLK := Lib.hid (HL.out.below hx4); clear hb4 hx4) | (with_reducible refine Agg.wpList_loadL HLK.out.kind rfl _ rfl rfl ?_))
  have HM0 := HM
  refine (rmNum_any g4 (.slice none 0 0) k ([] : List UInt8) _ (by omega) (by simp only [List.length_nil]; omega) HM.out).mono ?_
  rintro e w5 ⟨⟨r, rfl⟩, v5, hm, hs⟩
  have HK := Lib.hid (HK.out.trans ((HM0.out.stepBelow hs).mono hg4))
  have HM := Lib.hid (show MrV g4 w5 v5 (encN k) from (by simpa using hm))
  have HV := Lib.hid (show ∀ k, v5.ownBlock = some k → w3.heap.size ≤ k from fun k hk => by have := HM.out.ge k hk; omega)
  have HLK := Lib.hid (HL.out.below HK.out)
  clear hm hs HM0
  go_wp2_with (first | (with_reducible refine Agg.wpList_loadL HLK.out.user rfl _ rfl rfl ?_))
  have HM0 := HM
  refine (rmNum_any g4 v5 u (encN k) _ (by omega) (by omega) HM.out).mono ?_
  rintro e w6 ⟨⟨r, rfl⟩, v6, hm, hs⟩
  have HK := Lib.hid (HK.out.trans ((HM0.out.stepBelow hs).mono hg4))
  have HM := Lib.hid (show MrV g4 w6 v6 ((encN k) ++ encN u) from hm)
  have HV := Lib.hid (show ∀ k, v6.ownBlock = some k → w3.heap.size ≤ k from fun k hk => by have := HM.out.ge k hk; omega)
  have HLK := Lib.hid (HL.out.below HK.out)
  clear hm hs HM0
  go_wp2_with fail
  refine (refIn_is (s := [99]) (c := 119) (b := false) (by decide) (by decide) (by omega) _).mono ?_
  rintro e w7 ⟨rfl, rfl⟩
  go_wp2_with fail
  refine (refIn_is (s := [99]) (c := 110) (b := false) (by decide) (by decide) (by omega) _).mono ?_
  rintro e w8 ⟨rfl, rfl⟩
  go_wp2_with fail
  refine (refIn_is (s := [99]) (c := 112) (b := false) (by decide) (by decide) (by omega) _).mono ?_
  rintro e w9 ⟨rfl, rfl⟩
  go_wp2_with fail
  refine (refIn_is (s := [99]) (c := 122) (b := false) (by decide) (by decide) (by omega) _).mono ?_
  rintro e w10 ⟨rfl, rfl⟩
  go_wp2_with fail
  refine (refIn_is (s := [99]) (c := 99) (b := true) (by decide) (by decide) (by omega) _).mono ?_
  rintro e w11 ⟨rfl, rfl⟩
  have HSH := Lib.hid (slice_at26 g)
  have HSC := Lib.hid (rq_class_slice (HB.out.below HK.out) hl hc)
  go_wp2_with (first | (with_reducible refine Agg.wpList_val rfl (HSH.out _) ?_))
  have HM0 := HM
  refine (rmRaw_any g4 v6 _ ch _ w11 (by simp only [List.length_append]; omega) (by omega) HSC.out HM.out).mono ?_
  rintro e w12 ⟨⟨r, rfl⟩, v12, hm, hs⟩
  clear HSH HSC
  have HK := Lib.hid (HK.out.trans ((HM0.out.stepBelow hs).mono hg4))
  have HM := Lib.hid (show MrV g4 w12 v12 (((encN k) ++ encN u) ++ ch) from hm)
  have HV := Lib.hid (show ∀ k, v12.ownBlock = some k → w3.heap.size ≤ k from fun k hk => by have := HM.out.ge k hk; omega)
  have HLK := Lib.hid (HL.out.below HK.out)
  clear hm hs HM0
  go_wp2_with fail
  refine (refIn_is (s := [99]) (c := 98) (b := false) (by decide) (by decide) (by omega) _).mono ?_
  rintro e w13 ⟨rfl, rfl⟩
  have HE := Lib.hid (show (((encN k) ++ encN u) ++ ch) = putRq ⟨k, u, wh, nm, bs, ph, pn, ch⟩ by
    unfold putRq
    simp only [HPE.out]
    unfold putP
    simp only [show hasN 16 1 = false from by decide, show hasN 16 2 = false from by decide, show hasN 16 12 = false from by decide, show hasN 16 16 = true from by decide, show hasN 16 32 = false from by decide, if_true, Bool.false_eq_true, if_false, Int.toNat_natCast, List.append_assoc, List.nil_append, List.append_nil])
  have HKK := Lib.hid (Agg.belowThen HW.out (Nat.le_refl _) HK.out)
  have hszw := HKK.out.size
  go_wp2_with fail
  refine (rmDone_any g4 v12 _ _ (by simp only [List.length_append]; omega) HM.out).mono ?_
  rintro e w99 ⟨v99, rfl, ho7, hx7⟩
  rw [HE.out] at ho7
  have HO7 := Lib.hid (ho7.lower hszw)
  have HW7 := Lib.hid (Agg.belowThen HKK.out (Nat.le_refl _) hx7)
  clear ho7 hx7
  go_wp2_with fail
  go_ret2
  exact ⟨_, rfl, HO7.out, HW7.out⟩
end Go.Proofs.YtpnolgliklmnmaaGreat
