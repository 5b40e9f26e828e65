/- wire.GetReply: what it says, and what holds while it is got. (Several texts in one.) -/
import Derived.Test.YtpnolgliklmnmaaGreatQAK
import Derived.Test.YtpnolgliklmnmaaGreatQAE
import Derived.Test.YtpnolgliklmnmaaGreatQAL
import Derived.Test.YtpnolgliklmnmaaGreatQAQ
import Derived.Test.YtpnolgliklmnmaaGreatQAR
import Derived.Test.YtpnolgliklmnmaaGreatQAP
/-! spenceref01.Maker: Num, Raw, Text, Done. -/
namespace Go.Agg
open Go.RowKit
theorem step_appendO {P : Program} {α : Type} {E : Elem P α} {base : Nat} {ops : Array Oper} {o : Oper} {a : Act} {w : World} {Q : Exit → Act → World → Prop} {v : Value} {l : List α} {K : Act → World → Prop} {F : Prop} (hg : o.guard = none) (s x : Operand) (ho : o.op = .call { callee := .builtin .append, args := #[s, x], argTypes := #[E.st, E.st] }) (vx : Value) (hs : a.eval s = v) (hx : a.eval x = vx) (m : List α)
    (hown : Own E base w v l) (hm : SliceOf E w vx m) (h63 : l.length + m.length ≤ 1099511627776 / 8) (hby : E.bytes ≤ 1000) (hbase : base ≤ w.heap.size)
    (h : ∀ v' w', Own E base w' v' (l ++ m) → Pushed E base w w' v → Grew w v v' → K (a.put o.dst v') w') : if Region.wanted o (yielded ops a.tmps) = true then o.wp P a w K Q else F := by
  obtain ⟨v', w', hrun, h2, h3, h4, _⟩ := run_append (ty := o.type) hown _ m hm h63 hby hbase
  exact step_val hg (v := v') (w' := w') (by simp [execOp, ho, resolve, invoke, builtin, hs, hx, hrun]) (h v' w' h2 (pushed_of hown h3) (grew_of (Nat.le_refl _) h4))
end Go.Agg
namespace Go.Proofs.YtpnolgliklmnmaaGreat
open Go.RowKit Pl Go.Agg
/-- the document's maker: its bytes so far -/
structure MrV (g : Nat) (w : World) (v : Value) (b : List UInt8) : Prop where
  blk : Blk w g 81 (mkC v)
  own : Own EB (g + 1) w v b
section
variable {g : Nat} {w w' : World} {v : Value} {b : List UInt8}
theorem MrV.load (h : MrV g w v b) : LoadsL Tryz.prog w 23 (some ⟨g, 0, none⟩) v :=
  h.blk.one (P := Tryz.prog) 0 rfl (by kernel_rfl : Tryz.prog.underlying 23 = some (.slice 5)) rfl
theorem MrV.bad (h : MrV g w v b) : LoadsL Tryz.prog w 4 (some ⟨g, 1, none⟩) (.bool false) :=
  h.blk.one (P := Tryz.prog) 1 rfl Tryz.underlying4 rfl
theorem MrV.below (h : MrV g w v b) (hb : Below w.heap.size w w') : MrV g w' v b := ⟨h.blk.below hb, h.own.below hb⟩
theorem MrV.ge (h : MrV g w v b) : ∀ k, v.ownBlock = some k → g ≤ k := fun k hk => by have := (h.own.block k hk).1; omega
theorem MrV.lt (h : MrV g w v b) : ∀ k, v.ownBlock = some k → k < w.heap.size := fun k hk => by
  obtain ⟨_, cur, hc⟩ := h.own.block k hk
  exact Agg.heap_lt hc
theorem MrV.put {w1 : World} {v1 : Value} {l : List UInt8} (h : MrV g w v b) (ho : Own EB (g + 1) w1 v1 l) (hp : Pushed EB (g + 1) w w1 v) (hgr : Grew w v v1) :
    ∃ w2, (Instr.storeAt 23 (.pointer (some ⟨g, 0, none⟩)) v1).run Tryz.prog w1 = .ok () w2 ∧ MrV g w2 v1 l ∧ MkStep g w w2 v v1 := by
  have h1 : Blk w1 g 81 (mkC v) := hp.blk g _ _ _ (by decide) h.blk
  obtain ⟨p, c, rfl⟩ := ho.slice.form
  refine ⟨_, h1.run_put 0 (by simp [mkC]) _ rfl rfl (by kernel_rfl), ⟨h1.set 0 _, ho.keep fun k cur t fr hk hb => ?_⟩, ⟨?_, hgr⟩⟩
  · rw [Below.heap_setCell _ _ _ _ (by show k ≠ g; omega)]; exact hb
  · refine (hp.only.mono fun _ _ h => .inr h).trans (T := fun k => k = g) ⟨rfl, rfl, rfl, by simp [World.setCell], fun k _ hk => Below.heap_setCell _ _ _ _ hk⟩ fun _ _ h => .inl h
theorem MrV.stepBelow {v1 : Value} (h : MrV g w v b) (hs : MkStep g w w' v v1) : Below g w w' := hs.below (Nat.le_of_lt h.blk.lt) h.ge
end
set_option maxRecDepth 100000 in
set_option maxHeartbeats 1000000 in
theorem rmNum_any (g : Nat) (v : Value) (n : Nat) (b : List UInt8) (w : World) (hn : n ≤ 1099511627776) (hb : b.length ≤ 16777216) (hm : MrV g w v b) :
    Calls Tryz.prog 45 #[.pointer (some ⟨g, 0, none⟩), .int .i64 (n : Int)] w fun e w' => (∃ r, e = .returned r) ∧ ∃ v', MrV g w' v' (b ++ encN n) ∧ MkStep g w w' v v' := by
  have hlo : ¬ (n : Int) < 0 := by omega
  have hhi : ¬ (1099511627776 : Int) < (n : Int) := by omega
  have HEN := Lib.hid (enters_of Tryz.func84 (by kernel_rfl) rfl : ∀ args w, (callFunc 84 args).run Tryz.prog w = .ok (.enter 84 args) w)
  have HD := Lib.hid ((Below.refl w.heap.size w).drew)
  have HM := Lib.hid hm
  have HLDa := Lib.hid (hm.below HD.out).load.now
  clear hm
  go_enter Tryz.func45, Tryz.ntmps45
  go_wp2_with fail
  try simp only [Act.put, List.setIfInBounds_toArray, List.set_cons_succ, List.set_cons_zero]
  refine wp_region_any (by kernel_rfl) ?_
  refine Agg.any_take 0 (.pointer (some ⟨g, 0, none⟩)) rfl (by kernel_rfl) (fun _ _ _ h => h) rfl (fun W => by kernel_rfl) ?_
  try simp only [Act.put, List.setIfInBounds_toArray, List.set_cons_succ, List.set_cons_zero]
  refine Agg.any_take 1 (.pointer (some ⟨g, 0, none⟩)) rfl (by kernel_rfl) (fun _ _ _ h => h) rfl (fun W => by kernel_rfl) ?_
  try simp only [Act.put, List.setIfInBounds_toArray, List.set_cons_succ, List.set_cons_zero]
  refine Agg.any_take 2 (.pointer (some ⟨g, 0, none⟩)) rfl (by kernel_rfl) (fun _ _ _ h => h) rfl (fun W => by kernel_rfl) ?_
  try simp only [Act.put, List.setIfInBounds_toArray, List.set_cons_succ, List.set_cons_zero]
  refine Agg.any_take 3 (.pointer (some ⟨g, 0, none⟩)) rfl (by kernel_rfl) (fun _ _ _ h => h) rfl (fun W => by kernel_rfl) ?_
  try simp only [Act.put, List.setIfInBounds_toArray, List.set_cons_succ, List.set_cons_zero]
  refine Agg.any_take 5 (.int .i64 (n : Int)) rfl (by kernel_rfl) (fun _ _ _ h => h) rfl (fun W => by kernel_rfl) ?_
  try simp only [Act.put, List.setIfInBounds_toArray, List.set_cons_succ, List.set_cons_zero]
  refine Agg.any_ready [4, 6] (by kernel_rfl) (by simp) ?_
  refine Agg.any_cons rfl ?_ ?_
  · refine Agg.step_load rfl 23 _ rfl _ v rfl HLDa.out ?_
    try simp only [Act.put, List.setIfInBounds_toArray, List.set_cons_succ, List.set_cons_zero]
    refine Agg.any_ready [6] (by kernel_rfl) (by simp) ?_
    refine Agg.any_cons rfl ?_ ?_
    · refine Agg.step_call rfl 84 _ _ rfl #[.int .i64 (n : Int)] (by simp only [List.map_toArray, List.map_cons, List.map_nil]; rfl) (fun W => HEN.out _ W) ?_
      refine (refNumber_any n _ (by omega)).mono ?_
      rintro e w2 ⟨u, rfl, hu, hx⟩
      have HX := Lib.hid (Agg.belowThen HD.out (Nat.le_refl _) hx)
      have HU := Lib.hid hu.slice
      have HM2 := Lib.hid (HM.out.below HX.out)
      have HLDb := Lib.hid HM2.out.load.now
      clear hu hx
      refine ⟨_, rfl, ?_⟩
      try simp only [Act.put, List.setIfInBounds_toArray, List.set_cons_succ, List.set_cons_zero]
      refine Agg.any_ready [7] (by kernel_rfl) (by simp) ?_
      refine Agg.any_cons rfl ?_ ?_
      · refine Agg.step_appendO (E := EB) (base := g + 1) rfl _ _ rfl u rfl rfl (encN n) HM2.out.own HU.out (by have := encN_len hn; omega) (by decide) HM2.out.blk.lt ?_
        intro v3 w3 ho3 hp3 hg3
        obtain ⟨w4, hrun, hmk, hst⟩ := MrV.put HM2.out ho3 hp3 hg3
        have HMK := Lib.hid hmk
        have HST := Lib.hid hst
        clear hmk hst ho3 hp3 hg3
        try simp only [Act.put, List.setIfInBounds_toArray, List.set_cons_succ, List.set_cons_zero]
        refine Agg.any_take 8 (.pointer (some ⟨g, 0, none⟩)) rfl (by kernel_rfl) (fun _ _ _ h => h) rfl (fun W => by kernel_rfl) ?_
        try simp only [Act.put, List.setIfInBounds_toArray, List.set_cons_succ, List.set_cons_zero]
        refine Agg.any_take 9 (.pointer (some ⟨g, 0, none⟩)) rfl (by kernel_rfl) (fun _ _ _ h => h) rfl (fun W => by kernel_rfl) ?_
        try simp only [Act.put, List.setIfInBounds_toArray, List.set_cons_succ, List.set_cons_zero]
        refine Agg.any_ready [10] (by kernel_rfl) (by simp) ?_
        refine Agg.any_cons rfl ?_ ?_
        · refine Agg.step_store rfl rfl 23 _ _ rfl (.pointer (some ⟨g, 0, none⟩)) _ rfl rfl hrun ?_
          clear hrun
          try simp only [Act.put, List.setIfInBounds_toArray, List.set_cons_succ, List.set_cons_zero]
          refine Agg.any_end (by kernel_rfl) ?_
          refine bodyPost_end (results_none rfl _ _ _) rfl ?_
          exact ⟨⟨_, rfl⟩, v3, HMK.out, (MkStep.of_below HX.out).trans HST.out⟩
        exact AllReady.nil
      exact AllReady.nil
    exact AllReady.nil
  refine Agg.any_cons rfl ?_ ?_
  · refine Agg.step_call rfl 84 _ _ rfl #[.int .i64 (n : Int)] (by simp only [List.map_toArray, List.map_cons, List.map_nil]; rfl) (fun W => HEN.out _ W) ?_
    refine (refNumber_any n _ (by omega)).mono ?_
    rintro e w2 ⟨u, rfl, hu, hx⟩
    have HX := Lib.hid (Agg.belowThen HD.out (Nat.le_refl _) hx)
    have HU := Lib.hid hu.slice
    have HM2 := Lib.hid (HM.out.below HX.out)
    have HLDb := Lib.hid HM2.out.load.now
    clear hu hx
    refine ⟨_, rfl, ?_⟩
    try simp only [Act.put, List.setIfInBounds_toArray, List.set_cons_succ, List.set_cons_zero]
    refine Agg.any_ready [4] (by kernel_rfl) (by simp) ?_
    refine Agg.any_cons rfl ?_ ?_
    · refine Agg.step_load rfl 23 _ rfl _ v rfl HLDb.out ?_
      try simp only [Act.put, List.setIfInBounds_toArray, List.set_cons_succ, List.set_cons_zero]
      refine Agg.any_ready [7] (by kernel_rfl) (by simp) ?_
      refine Agg.any_cons rfl ?_ ?_
      · refine Agg.step_appendO (E := EB) (base := g + 1) rfl _ _ rfl u rfl rfl (encN n) HM2.out.own HU.out (by have := encN_len hn; omega) (by decide) HM2.out.blk.lt ?_
        intro v3 w3 ho3 hp3 hg3
        obtain ⟨w4, hrun, hmk, hst⟩ := MrV.put HM2.out ho3 hp3 hg3
        have HMK := Lib.hid hmk
        have HST := Lib.hid hst
        clear hmk hst ho3 hp3 hg3
        try simp only [Act.put, List.setIfInBounds_toArray, List.set_cons_succ, List.set_cons_zero]
        refine Agg.any_take 8 (.pointer (some ⟨g, 0, none⟩)) rfl (by kernel_rfl) (fun _ _ _ h => h) rfl (fun W => by kernel_rfl) ?_
        try simp only [Act.put, List.setIfInBounds_toArray, List.set_cons_succ, List.set_cons_zero]
        refine Agg.any_take 9 (.pointer (some ⟨g, 0, none⟩)) rfl (by kernel_rfl) (fun _ _ _ h => h) rfl (fun W => by kernel_rfl) ?_
        try simp only [Act.put, List.setIfInBounds_toArray, List.set_cons_succ, List.set_cons_zero]
        refine Agg.any_ready [10] (by kernel_rfl) (by simp) ?_
        refine Agg.any_cons rfl ?_ ?_
        · refine Agg.step_store rfl rfl 23 _ _ rfl (.pointer (some ⟨g, 0, none⟩)) _ rfl rfl hrun ?_
          clear hrun
          try simp only [Act.put, List.setIfInBounds_toArray, List.set_cons_succ, List.set_cons_zero]
          refine Agg.any_end (by kernel_rfl) ?_
          refine bodyPost_end (results_none rfl _ _ _) rfl ?_
          exact ⟨⟨_, rfl⟩, v3, HMK.out, (MkStep.of_below HX.out).trans HST.out⟩
        exact AllReady.nil
      exact AllReady.nil
    exact AllReady.nil
  exact AllReady.nil
set_option maxRecDepth 100000 in
set_option maxHeartbeats 1000000 in
theorem rmRaw_any (g : Nat) (v x : Value) (l b : List UInt8) (w : World) (hb : b.length ≤ 16777216) (hl : l.length ≤ 16777216) (hx : SliceOf EB w x l) (hm : MrV g w v b) :
    Calls Tryz.prog 49 #[.pointer (some ⟨g, 0, none⟩), x] w fun e w' => (∃ r, e = .returned r) ∧ ∃ v', MrV g w' v' (b ++ l) ∧ MkStep g w w' v v' := by
  have HM := Lib.hid hm
  have HX := Lib.hid hx
  have HO := Lib.hid hm.own
  have h63 : b.length + l.length ≤ 1099511627776 / 8 := by omega
  have hbase : g + 1 ≤ w.heap.size := hm.blk.lt
  clear hm hx
  go_enter Tryz.func49, Tryz.ntmps49
  go_wp2_with (first | (with_reducible refine Agg.wpList_loadL HM.out.load rfl _ rfl rfl ?_) | (refine Agg.wpList_appendO (E := EB) (base := g + 1) rfl _ _ rfl x rfl rfl l HO.out HX.out h63 (by decide) hbase ?_; intro v1 w2 ho1 hp1 hgr1; obtain ⟨w3, hrun, hmk, hst⟩ := MrV.put HM.out ho1 hp1 hgr1; have HMK := Lib.hid hmk; have HST := Lib.hid hst; clear ho1 hp1 hgr1 hmk hst) | (refine Agg.wpList_store rfl rfl 23 _ _ rfl (.pointer (some ⟨g, 0, none⟩)) _ rfl rfl hrun ?_))
  refine bodyPost_end (results_none rfl _ _ _) rfl ?_
  exact ⟨⟨_, rfl⟩, v1, HMK.out, HST.out⟩
set_option maxRecDepth 100000 in
set_option maxHeartbeats 1000000 in
theorem rmText_any (g : Nat) (v x : Value) (l b : List UInt8) (w : World) (hb : b.length ≤ 4194304) (hl : l.length ≤ 1048576) (hx : Off EB g w v x l) (hm : MrV g w v b) :
    Calls Tryz.prog 47 #[.pointer (some ⟨g, 0, none⟩), x] w fun e w' => (∃ r, e = .returned r) ∧ ∃ v', MrV g w' v' (b ++ (encN l.length ++ l)) ∧ MkStep g w w' v v' := by
  have HM := Lib.hid hm
  have HX := Lib.hid hx
  have hlx := fun W => bytes_len hx.slice W
  have hhi : ¬ (1048576 : Int) < (l.length : Int) := by omega
  have hen := encN_len (n := l.length) (by omega)
  clear hm hx
  go_enter Tryz.func47, Tryz.ntmps47
  go_wp2_with fail
  refine (rmNum_any g v l.length b _ (by omega) (by omega) HM.out).mono ?_
  rintro e w1 ⟨⟨r, rfl⟩, v1, hm1, hs1⟩
  have HM1 := Lib.hid hm1
  have HS1 := Lib.hid hs1
  have HX1 := Lib.hid (HX.out.step hs1)
  clear hm1 hs1
  go_wp2_with fail
  refine (rmRaw_any g v1 x l (b ++ encN l.length) _ (by simp only [List.length_append]; omega) (by omega) HX1.out.slice HM1.out).mono ?_
  rintro e w2 ⟨⟨r2, rfl⟩, v2, hm2, hs2⟩
  have HM2 := Lib.hid hm2
  have HS2 := Lib.hid (HS1.out.trans hs2)
  clear hm2 hs2
  go_wp2_with fail
  refine bodyPost_end (results_none rfl _ _ _) rfl ?_
  exact ⟨⟨_, rfl⟩, v2, by rw [← List.append_assoc]; exact HM2.out, HS2.out⟩
set_option maxRecDepth 100000 in
set_option maxHeartbeats 1000000 in
theorem rmDone_any (g : Nat) (v : Value) (b : List UInt8) (w : World) (hb : b.length ≤ 33554432) (hm : MrV g w v b) :
    Calls Tryz.prog 50 #[.pointer (some ⟨g, 0, none⟩)] w fun e w' => ∃ v', e = .returned (.tuple #[v', .int .i64 0]) ∧ Own EB w.heap.size w' v' b ∧ Below w.heap.size w w' := by
  have HM := Lib.hid hm
  clear hm
  go_enter Tryz.func50, Tryz.ntmps50
  go_wp2_with (first | (with_reducible refine Agg.wpList_loadL HM.out.bad rfl _ rfl rfl ?_) | (refine Agg.wpList_slice0 (base := w.heap.size) EB rfl rfl (Nat.le_refl _) ?_; intro v0 w1 ho1 hx1 hne1; have HO1 := Lib.hid ho1; have HX1 := Lib.hid hx1; have HM1 := Lib.hid (HM.out.below hx1); have hsz1 := hx1.size; clear ho1 hx1 hne1) | (with_reducible refine Agg.wpList_loadL HM1.out.load rfl _ rfl rfl ?_) | (refine Agg.wpList_appendS (E := EB) (base := w.heap.size) rfl _ _ rfl v rfl rfl b HO1.out HM1.out.own.slice (by simp; omega) (by decide) hsz1 ?_; intro v2 w2 ho2 hp2 hne2; have HO2 := Lib.hid ho2; have HX2 := Lib.hid (HX1.out.trans (hp2.below w.heap.size (Nat.le_refl _) hsz1)); clear ho2 hp2 hne2))
  go_ret2
  exact ⟨_, rfl, by simpa using HO2.out, HX2.out⟩
end Go.Proofs.YtpnolgliklmnmaaGreat
/-! spenceref28.PutReply of any reply. -/
namespace Go.Proofs.YtpnolgliklmnmaaGreat
open Go.RowKit Pl Go.Agg
theorem slice_at22 (g : Nat) (w : World) : (Instr.sliceAt 25 (.pointer (some ⟨g, 22, none⟩)) none none none).run Tryz.prog w = .ok (.slice (some ⟨g, 22, none⟩) 20 20) w := by kernel_rfl
theorem pathsName_len {l : List P20} (h : pathsName l = true) : ∀ x ∈ l, x.1.2.length ≤ 24 := fun x hx => by
  unfold pathsName at h
  rw [List.all_eq_true] at h
  exact isName_le (h x hx)
set_option maxRecDepth 100000 in
set_option maxHeartbeats 8000000 in
theorem refPutR_good (e g m : Nat) (ph pn ch : List UInt8) (pv : Value) (l : List P20) (hl : ph.length = 20) (hc : ch.length = 20) (hpn : pn.length ≤ 1048576) (hll : l.length ≤ 2000) (hlx : ∀ x ∈ l, x.1.2.length ≤ 1048576) (he : e ≤ 1099511627776) (hgg : g ≤ 1099511627776) (hmm : m ≤ 1099511627776)
    (hr : Rp.right ⟨e, ph, pn, ch, g, l, m⟩ = true) (w : World) (hs : ElemsAt w pv l) :
    Calls Tryz.prog 23 #[.agg (rpG e ph pn ch g pv m)] w fun x w' => ∃ v', x = .returned (.tuple #[v', .int .i64 0]) ∧ Own EB w.heap.size w' v' (putRp ⟨e, ph, pn, ch, g, l, m⟩) ∧ Below w.heap.size w w' := by
  have HBLD := Lib.hid (fun W => (by kernel_rfl : (Instr.build 81 #[]).run Tryz.prog W = .ok (.agg (mkC (.slice none 0 0))) W))
  have HRT := Lib.hid (fun W (h : ElemsAt W pv l) => (show Calls Tryz.prog 27 #[.agg (rpG e ph pn ch g pv m)] W fun x w' => x = .returned (.bool true) ∧ Below W.heap.size W w' by have := refRReply_any e g m ph pn ch pv l hl hc hpn (by omega) hlx W h; rwa [hr] at this))
  have HE := Lib.hid hs
  have hlv := fun W => elems_len hs W
  have HLX := Lib.hid hlx
  have hee := encN_len (n := e) (by omega)
  have heg := encN_len (n := g) (by omega)
  have hem := encN_len (n := m) (by omega)
  have hel := encN_len (n := l.length) (by omega)
  have hpl := pathS_le (n := pn) ph
  have hep := encN_len (n := (pathS ph pn).length) (by omega)
  clear hr hs hlx
  go_enter Tryz.func23, Tryz.ntmps23
  go_wp2_with (first | (with_reducible refine Agg.wpList_box rfl 46 _ rfl (rpG e ph pn ch g pv m) rfl ?_; intro b w1 hb1 hx1 hgb; have HL := Lib.hid (RpG.of_blk hb1 hl hc); have HB := Lib.hid hb1; have HW := Lib.hid hx1; clear hb1 hx1 hgb) | (with_reducible refine Agg.wpList_loadL HL.out.all rfl _ rfl rfl ?_))
  refine (HRT.out _ (HE.out.below HW.out)).mono ?_
  rintro x w2 ⟨rfl, hx2⟩
  have HL := Lib.hid (HL.out.below hx2)
  have HB := Lib.hid (HB.out.below hx2)
  have HW := Lib.hid (Agg.belowThen HW.out (Nat.le_refl _) hx2)
  clear hx2
  have hsz := HW.out.size
  have HE := Lib.hid (HE.out.below HW.out)
  go_wp2_with (first | (with_reducible refine Agg.wpList_build0 81 rfl rfl (.agg (mkC (.slice none 0 0))) HBLD.out ?_) | (with_reducible refine Agg.wpList_box rfl 81 _ rfl (mkC (.slice none 0 0)) rfl ?_; intro g4 w4 hb4 hx4 hg4; have hlt4 := hb4.lt; have HM := Lib.hid (⟨hb4, Own.nil _ _ _⟩ : MrV g4 w4 (.slice none 0 0) []); have HK := Lib.hid hx4; have HLK := Lib.hid (HL.out.below hx4); clear hb4 hx4) | (with_reducible refine Agg.wpList_loadL HLK.out.err rfl _ rfl rfl ?_))
  have HM0 := HM
  refine (rmNum_any g4 (.slice none 0 0) e ([] : List UInt8) _ (by omega) (by simp only [List.length_nil]; omega) HM.out).mono ?_
  rintro x w5 ⟨⟨r, rfl⟩, v5, hm, hs⟩
  have HK := Lib.hid (HK.out.trans ((HM0.out.stepBelow hs).mono hg4))
  have HM := Lib.hid (show MrV g4 w5 v5 (encN e) from (by simpa using hm))
  have HLK := Lib.hid (HL.out.below HK.out)
  clear hm hs HM0
  go_wp2_with (first | (with_reducible refine Agg.wpList_loadL HLK.out.goal rfl _ rfl rfl ?_))
  have HM0 := HM
  refine (rmNum_any g4 v5 g (encN e) _ (by omega) (by omega) HM.out).mono ?_
  rintro x w6 ⟨⟨r, rfl⟩, v6, hm, hs⟩
  have HK := Lib.hid (HK.out.trans ((HM0.out.stepBelow hs).mono hg4))
  have HM := Lib.hid (show MrV g4 w6 v6 ((encN e) ++ encN g) from hm)
  have HLK := Lib.hid (HL.out.below HK.out)
  clear hm hs HM0
  go_wp2_with (first | (with_reducible refine Agg.wpList_loadL HLK.out.many rfl _ rfl rfl ?_))
  have HM0 := HM
  refine (rmNum_any g4 v6 m ((encN e) ++ encN g) _ (by omega) (by simp only [List.length_append]; omega) HM.out).mono ?_
  rintro x w7 ⟨⟨r, rfl⟩, v7, hm, hs⟩
  have HK := Lib.hid (HK.out.trans ((HM0.out.stepBelow hs).mono hg4))
  have HM := Lib.hid (show MrV g4 w7 v7 (((encN e) ++ encN g) ++ encN m) from hm)
  have HLK := Lib.hid (HL.out.below HK.out)
  clear hm hs HM0
  go_wp2_with (first | (with_reducible refine Agg.wpList_loadL HLK.out.path rfl _ rfl rfl ?_))
  refine (refText_any ph pn hl (by omega) _).mono ?_
  rintro x w8 ⟨x8, rfl, hn, hy, hx⟩
  have HN := Lib.hid hn
  have HX := Lib.hid hx
  have HY := Lib.hid hy
  clear hn hx hy
  go_wp2_with fail
  have HM0 := Lib.hid (HM.out.below HX.out)
  refine (rmText_any g4 v7 x8 (pathS ph pn) _ w8 (by simp only [List.length_append]; omega) (by omega) (Off.behind (w0 := w7) HN.out HY.out HM.out.blk.lt HM.out.lt) HM0.out).mono ?_
  rintro x w9 ⟨⟨r, rfl⟩, v9, hm, hs⟩
  have HK := Lib.hid (Agg.belowThen HK.out (Nat.le_refl _) HX.out)
  clear HX HN HY
  have HK := Lib.hid (HK.out.trans ((HM0.out.stepBelow hs).mono hg4))
  have HM := Lib.hid (show MrV g4 w9 v9 ((((encN e) ++ encN g) ++ encN m) ++ (encN (pathS ph pn).length ++ pathS ph pn)) from hm)
  have HLK := Lib.hid (HL.out.below HK.out)
  clear hm hs HM0
  have HSH := Lib.hid (slice_at22 b)
  have HSC := Lib.hid (rp_class_slice (HB.out.below HK.out) hl hc)
  go_wp2_with (first | (with_reducible refine Agg.wpList_val rfl (HSH.out _) ?_))
  have HM0 := HM
  refine (rmRaw_any g4 v9 _ ch _ w9 (by simp only [List.length_append]; omega) (by omega) HSC.out HM.out).mono ?_
  rintro x w10 ⟨⟨r, rfl⟩, v10, hm, hs⟩
  clear HSH HSC
  have HK := Lib.hid (HK.out.trans ((HM0.out.stepBelow hs).mono hg4))
  have HM := Lib.hid (show MrV g4 w10 v10 (((((encN e) ++ encN g) ++ encN m) ++ (encN (pathS ph pn).length ++ pathS ph pn)) ++ ch) from hm)
  have HLK := Lib.hid (HL.out.below HK.out)
  clear hm hs HM0
  go_wp2_with (first | (with_reducible refine Agg.wpList_loadL HLK.out.paths rfl _ rfl rfl ?_))
  have HM0 := HM
  refine (rmNum_any g4 v10 l.length (((((encN e) ++ encN g) ++ encN m) ++ (encN (pathS ph pn).length ++ pathS ph pn)) ++ ch) _ (by omega) (by simp only [List.length_append]; omega) HM.out).mono ?_
  rintro x w11 ⟨⟨r, rfl⟩, v11, hm, hs⟩
  have HK := Lib.hid (HK.out.trans ((HM0.out.stepBelow hs).mono hg4))
  have HM := Lib.hid (show MrV g4 w11 v11 ((((((encN e) ++ encN g) ++ encN m) ++ (encN (pathS ph pn).length ++ pathS ph pn)) ++ ch) ++ encN l.length) from hm)
  have HLK := Lib.hid (HL.out.below HK.out)
  clear hm hs HM0
  have HD := Lib.hid (show ((((((encN e) ++ encN g) ++ encN m) ++ (encN (pathS ph pn).length ++ pathS ph pn)) ++ ch) ++ encN l.length) = rpHead e g m ph pn ch l.length from by unfold rpHead; simp only [List.append_assoc])
  rw [HD.out] at HM
  have hrl := rpHead_le (ph := ph) (pn := pn) he hgg hmm (show l.length ≤ 1099511627776 by omega) hc
  clear HD hee heg hem hel hpl hep
  go_wp2_with fail
  go_loopw [5] (fun i wr => ∃ (k : Nat) (v : Value), k ≤ l.length ∧ i = .int .i64 k ∧ MrV g4 wr v (rpHead e g m ph pn ch l.length ++ (l.take k).flatMap encP) ∧ Below w2.heap.size w2 wr) (fun i _ => l.length - (intOf i).toNat)
  case atStart => exact ⟨0, _, by omega, rfl, by simpa using HM.out, HK.out⟩
  case round =>
    obtain ⟨w20, rfl⟩ : ∃ w20 : World, w20 = wr := ⟨_, rfl⟩
    obtain ⟨k, v20, hk, rfl, hm, hw⟩ := hrel
    have HM := Lib.hid hm
    have HK := Lib.hid hw
    have HLK := Lib.hid (HL.out.below hw)
    have hfl := flatP_le (l.take k)
    have hkl : (l.take k).length ≤ k := List.length_take_le _ _
    clear hm hw
    by_cases hlt : k < l.length
    · obtain ⟨y, hyk⟩ : ∃ y, l[k]? = some y := ⟨_, List.getElem?_eq_getElem hlt⟩
      obtain ⟨q, hadr, hld, _⟩ := elem_at (HE.out.below HK.out) k y hyk
      have hyl := HLX.out y (List.mem_of_getElem? hyk)
      have HLY := Lib.hid hld
      have HYK := Lib.hid hyk
      have hpl := pathS_le (n := y.1.2) y.1.1
      clear hld hyk
      go_wp2_with (first | (with_reducible refine Agg.wpList_loadL HLK.out.paths rfl _ rfl rfl ?_) | (with_reducible refine Agg.wpList_loadL HLY.out rfl _ rfl rfl ?_))
      refine (refText_any y.1.1 y.1.2 y.2 (by omega) _).mono ?_
      rintro x w21 ⟨x21, rfl, hn, hy, hx⟩
      have HN := Lib.hid hn
      have HX := Lib.hid hx
      have HY := Lib.hid hy
      clear hn hx hy
      go_wp2_with fail
      have HM0 := Lib.hid (HM.out.below HX.out)
      refine (rmText_any g4 v20 x21 (pathS y.1.1 y.1.2) _ w21 (by simp only [List.length_append]; omega) (by omega) (Off.behind (w0 := w20) HN.out HY.out HM.out.blk.lt HM.out.lt) HM0.out).mono ?_
      rintro x w22 ⟨⟨r, rfl⟩, v22, hm, hs⟩
      have HK := Lib.hid ((Agg.belowThen HK.out (Nat.le_refl _) HX.out).trans ((HM0.out.stepBelow hs).mono hg4))
      have HM := Lib.hid (show MrV g4 w22 v22 (rpHead e g m ph pn ch l.length ++ (l.take (k + 1)).flatMap encP) from by rw [take_flatP HYK.out, ← List.append_assoc]; exact hm)
      clear hm hs HM0 HX HN HY
      go_wp2_with fail
      go_roundw
      case rel => exact ⟨k + 1, v22, by omega, by go_num, HM.out, HK.out⟩
      case measure => simp [intOf]; omega
    · obtain rfl : k = l.length := by omega
      rw [List.take_length, rpHead_eq] at HM
      rw [List.take_length] at hfl hkl
      have HPE := Lib.hid (rpHead_eq e g m ph pn ch l)
      have hpl : (putRp ⟨e, ph, pn, ch, g, l, m⟩).length ≤ 33554432 := by rw [← HPE.out, List.length_append]; omega
      clear HPE hlt
      have HKK := Lib.hid (Agg.belowThen HW.out (Nat.le_refl _) HK.out)
      have hszw := HKK.out.size
      go_wp2_with (first | (with_reducible refine Agg.wpList_loadL HLK.out.paths rfl _ rfl rfl ?_))
      refine (rmDone_any g4 v20 _ _ hpl HM.out).mono ?_
      rintro x w99 ⟨v99, rfl, ho7, hx7⟩
      have HO7 := Lib.hid (ho7.lower hszw)
      have HW7 := Lib.hid (Agg.belowThen HKK.out (Nat.le_refl _) hx7)
      clear ho7 hx7
      go_wp2_with fail
      go_ret2
      exact ⟨_, rfl, HO7.out, HW7.out⟩
set_option maxRecDepth 100000 in
set_option maxHeartbeats 4000000 in
theorem refPutR_bad (e g m : Int) (ph pn ch : List UInt8) (pv : Value) (l : List P20) (hl : ph.length = 20) (hc : ch.length = 20) (hpn : pn.length ≤ 1048576) (hll : l.length ≤ 1048576) (hlx : ∀ x ∈ l, x.1.2.length ≤ 1048576) (hr : Rp.right ⟨e, ph, pn, ch, g, l, m⟩ = false) (w : World) (hs : ElemsAt w pv l) :
    Calls Tryz.prog 23 #[.agg (rpG e ph pn ch g pv m)] w fun x w' => x = .returned (.tuple #[.slice none 0 0, .int .i64 2]) ∧ Below w.heap.size w w' := by
  have HRT := Lib.hid (fun W (h : ElemsAt W pv l) => (show Calls Tryz.prog 27 #[.agg (rpG e ph pn ch g pv m)] W fun x w' => x = .returned (.bool false) ∧ Below W.heap.size W w' by have := refRReply_any e g m ph pn ch pv l hl hc hpn hll hlx W h; rwa [hr] at this))
  have HY := Lib.hid hs
  clear hr hs hlx
  go_enter Tryz.func23, Tryz.ntmps23
  go_wp2_with (first | (with_reducible refine Agg.wpList_box rfl 46 _ rfl (rpG e ph pn ch g pv m) rfl ?_; intro b w1 hb1 hx1 hgb; have HL := Lib.hid (RpG.of_blk hb1 hl hc); have HB := Lib.hid hb1; have HW := Lib.hid hx1; clear hb1 hx1 hgb) | (with_reducible refine Agg.wpList_loadL HL.out.all rfl _ rfl rfl ?_))
  refine (HRT.out _ (HY.out.below HW.out)).mono ?_
  rintro x w2 ⟨rfl, hx2⟩
  have HW := Lib.hid (Agg.belowThen HW.out (Nat.le_refl _) hx2)
  clear hx2
  go_wp2_with fail
  go_ret2
  exact ⟨rfl, HW.out⟩
theorem refPutR_any (e g m : Int) (ph pn ch : List UInt8) (pv : Value) (l : List P20) (hl : ph.length = 20) (hc : ch.length = 20) (hpn : pn.length ≤ 1048576) (hll : l.length ≤ 1048576) (hlx : ∀ x ∈ l, x.1.2.length ≤ 1048576) (w : World) (hs : ElemsAt w pv l) :
    Calls Tryz.prog 23 #[.agg (rpG e ph pn ch g pv m)] w fun x w' => ∃ v', x = .returned (.tuple #[v', .int .i64 (rpCode ⟨e, ph, pn, ch, g, l, m⟩ : Int)]) ∧ Own EB w.heap.size w' v' (rpBytes ⟨e, ph, pn, ch, g, l, m⟩) ∧ Below w.heap.size w w' := by
  unfold rpCode rpBytes
  cases hr : Rp.right ⟨e, ph, pn, ch, g, l, m⟩ with
  | false =>
    refine (refPutR_bad e g m ph pn ch pv l hl hc hpn hll hlx hr w hs).mono ?_
    rintro x w' ⟨rfl, hx⟩
    exact ⟨_, rfl, Own.nil _ _ _, hx⟩
  | true =>
    have hb := hr
    simp only [Rp.right, Bool.and_eq_true, decide_eq_true_eq] at hb
    obtain ⟨⟨h1, h2⟩, ⟨h3, h4⟩, ⟨h5, h6⟩, _, h8, _⟩ := hb
    obtain ⟨e, rfl⟩ : ∃ n : Nat, e = n := ⟨e.toNat, by omega⟩
    obtain ⟨g, rfl⟩ : ∃ n : Nat, g = n := ⟨g.toNat, by omega⟩
    obtain ⟨m, rfl⟩ : ∃ n : Nat, m = n := ⟨m.toNat, by omega⟩
    simp only [if_true]
    exact refPutR_good e g m ph pn ch pv l hl hc hpn h8 hlx (by omega) (by omega) (by omega) hr w hs
end Go.Proofs.YtpnolgliklmnmaaGreat
/-! wire.GetReply: what it says, and what holds while it is got. -/
namespace Go.Proofs.YtpnolgliklmnmaaGreat
open Go.RowKit Pl Go.Agg
theorem sNum_le (most : Nat) (s : Option (List UInt8)) : (sNum most s).1 ≤ most := by
  cases h : (sNum most s).2 with
  | none =>
    cases s with
    | none => simp [sNum]
    | some r =>
      simp only [sNum] at h ⊢
      cases hg : getN most r with
      | none => simp
      | some p => rw [hg] at h; simp at h
  | some y => exact (sNum_some (Prod.ext (rfl : (sNum most s).1 = (sNum most s).1) h)).2.1
theorem sHash_len (s : Option (List UInt8)) : stLen (sHash s).2 ≤ stLen s := sRaw_len 20 s
theorem getRp_parts {b : List UInt8} {e g m n : Nat} {s1 s2 s3 s4 s5 s6 s7 : Option (List UInt8)} {t ch : List UInt8} {ts : List (List UInt8)} (h1 : sNum 63 (some b) = (e, s1)) (h2 : sNum 1099511627776 s1 = (g, s2)) (h3 : sNum 1099511627776 s2 = (m, s3)) (h4 : sText 57 s3 = (t, s4)) (h5 : sHash s4 = (ch, s5)) (h6 : sNum 2000 s5 = (n, s6)) (h7 : sTexts n s6 = (ts, s7)) :
    getRp b = if s7 = some [] ∧ (textOdd t || ts.any textOdd) = false ∧ Rp.right ⟨e, parseH t, parseN t, ch, g, ts.map textP, m⟩ = true then some ⟨e, parseH t, parseN t, ch, g, ts.map textP, m⟩ else none := by
  have e1 : rE (some b) = (e, s1) := h1
  have e2 : rG (some b) = (g, s2) := by unfold rG; rw [e1]; exact h2
  have e3 : rM (some b) = (m, s3) := by unfold rM; rw [e2]; exact h3
  have e4 : rX (some b) = (t, s4) := by unfold rX; rw [e3]; exact h4
  have e5 : rH (some b) = (ch, s5) := by unfold rH; rw [e4]; exact h5
  have e6 : rC (some b) = (n, s6) := by unfold rC; rw [e5]; exact h6
  have e7 : rL (some b) = (ts, s7) := by unfold rL; rw [e6]; exact h7
  have er : rRp (some b) = ⟨e, parseH t, parseN t, ch, g, ts.map textP, m⟩ := by unfold rRp; rw [e1, e2, e3, e4, e5, e7]
  have eo : rOdd (some b) = (textOdd t || ts.any textOdd) := by unfold rOdd; rw [e4, e7]
  unfold getRp
  rw [e7, eo, er]
theorem snum_40 (base g : Nat) (s : Option (List UInt8)) (w : World) (hl : stLen s ≤ 16777216) (h : CuS base g w s) :
    Calls Tryz.prog 52 #[.pointer (some ⟨g, 0, none⟩), .int .i64 1099511627776] w fun x w' => x = .returned (.int .i64 ((sNum 1099511627776 s).1 : Int)) ∧ CuS base g w' (sNum 1099511627776 s).2 ∧ Only (· = g) w w' := by
  have h1 := snum_any base g 1099511627776 s w hl (Nat.le_refl _) h
  rw [show ((1099511627776 : Nat) : Int) = (1099511627776 : Int) from by simp] at h1
  exact h1
/-- what GetReply tells -/
def rpOut (b : List UInt8) : Rp := (getRp b).getD Rp.zero
def rpErr (b : List UInt8) : Nat := if (getRp b).isSome then 0 else 4
theorem rpOut_some {b : List UInt8} {q : Rp} (h : getRp b = some q) : rpOut b = q ∧ rpErr b = 0 := by simp [rpOut, rpErr, h]
theorem rpOut_none {b : List UInt8} (h : getRp b = none) : rpOut b = Rp.zero ∧ rpErr b = 4 := by simp [rpOut, rpErr, h]
theorem rp_zero : (Tryz.prog.info? 46).map (·.zero) = some (some (.agg (rpG 0 z20 [] z20 0 (.slice none 0 0) 0))) := by kernel_rfl
theorem rp_info {e g m : Int} {pv : Value} {ph pn ch : List UInt8} (hl : ph.length = 20) (hc : ch.length = 20) : (Tryz.prog.info? 46).map (·.size) = some (rpG e ph pn ch g pv m).size := by rw [rpG_size hl hc]; kernel_rfl
theorem rp_under : Tryz.prog.underlying 46 = some (.struct (Tryz.prog.fieldsOf 46)) := by kernel_rfl
theorem rp_build0 (W : World) : (Instr.build 46 #[]).run Tryz.prog W = .ok (.agg (rpG 0 z20 [] z20 0 (.slice none 0 0) 0)) W := by kernel_rfl
theorem rp_one {w : World} {pv : Value} {l : List P20} (h : ElemsAt w pv l) (e g m : Int) (ph pn ch : List UInt8) : (rpG e ph pn ch g pv m).all (·.oneCell') = true := by
  have h1 := pC_one ph pn
  have h2 := hC_one ch
  obtain ⟨p, c, hf⟩ := h.form
  subst hf
  simp only [rpG, Array.all_append, h1, h2]
  simp [Value.oneCell']
theorem elems_cell {w : World} {pv : Value} {l : List P20} (h : ElemsAt w pv l) : pv.cells = #[pv] ∧ pv.oneCell' = true := by
  obtain ⟨p, c, hf⟩ := h.form
  subst hf
  exact ⟨rfl, rfl⟩
section
variable {t : TypeId} {w0 w w' : World} {base gr gg gc : Nat} {s : Option (List UInt8)} {odd : Bool} {cells : Array Value}
/-- .. beside a slice of paths that grows -/
theorem GeS.pushed {v : Value} (h : GeS t w0 base gr gg gc w s odd cells) (hp : Pushed E20 w0.heap.size w w' v) (ht : t ≠ 27) : GeS t w0 base gr gg gc w' s odd cells := by
  have hblk := h.blk
  have hgt := h.gt.blk
  unfold Blk at hblk hgt
  obtain ⟨u, r, e, hu, h1, h2⟩ := h.gt.cur
  have hcu := hu.blk
  unfold Blk at hcu
  exact ⟨⟨hp.blk gg _ _ _ (by decide) hgt, u, r, e, ⟨hp.blk gc _ _ _ (by decide) hcu, restKeepT hu.rest fun k cur fr hk => hp.blk k _ _ _ (by decide) hk⟩, h1, h2⟩, hp.blk gr _ _ _ ht hblk, h.below.trans (hp.below w0.heap.size (Nat.le_refl _) h.below.size), h.nc, h.ng, h.gr_ge, h.gg_ge, h.gc_ge⟩
/-- one cell of the result written -/
theorem GeS.setR (h : GeS t w0 base gr gg gc w s odd cells) (i : Nat) (v : Value) (cells' : Array Value) (he : cells.setIfInBounds i v = cells') (h1 : t ≠ 89) (h2 : t ≠ 142) (h3 : t ≠ 5) : GeS t w0 base gr gg gc (w.setCell ⟨gr, i, none⟩ v) s odd cells' := by
  subst he
  exact h.store (h.blk.set i v) ⟨rfl, rfl, rfl, by simp [World.setCell], fun k _ hk => Below.heap_setCell _ _ _ _ hk⟩ h1 h2 h3
theorem GeS.cellR (h : GeS t w0 base gr gg gc w s odd cells) (i : Nat) {v : Value} (hv : cells[i]? = some v) : w.cell? ⟨gr, i, none⟩ = some v ∧ w.frozen? ⟨gr, i, none⟩ = false := ⟨by rw [h.blk.cell]; exact hv, frozen_of_row _ _ _ _ _ h.blk⟩
/-- .. that the getter's steps leave alone -/
theorem paths_keepG {v : Value} {l : List P20} {B : Nat} {S : Nat → Prop} (ho : Own E20 B w v l) (h : GeS t w0 base gr gg gc w s odd cells) (hs : Only S w w') (hS : ∀ k, S k → k = gc ∨ k = gg) : Own E20 B w' v l := by
  refine ho.keepT fun k cur fr hk => (hs.block k (Agg.heap_lt hk) fun e => ?_).trans hk
  rcases hS k e with rfl | rfl
  · obtain ⟨cs, hb⟩ := h.gt.cur.blk
    unfold Blk at hb
    rw [hb] at hk
    injection hk with hk
    injection hk with _ hk
    exact absurd hk (by decide)
  · have hb := h.gt.blk
    unfold Blk at hb
    rw [hb] at hk
    injection hk with hk
    injection hk with _ hk
    exact absurd hk (by decide)
theorem paths_keepR {v : Value} {l : List P20} {B : Nat} (ho : Own E20 B w v l) (h : GeS t w0 base gr gg gc w s odd cells) (hs : Only (· = gr) w w') (ht : t ≠ 27) : Own E20 B w' v l := by
  refine ho.keepT fun k cur fr hk => (hs.block k (Agg.heap_lt hk) fun e => ht ?_).trans hk
  subst e
  have hb := h.blk
  unfold Blk at hb
  rw [hb] at hk
  injection hk with hk
  injection hk with _ hk
end
end Go.Proofs.YtpnolgliklmnmaaGreat
