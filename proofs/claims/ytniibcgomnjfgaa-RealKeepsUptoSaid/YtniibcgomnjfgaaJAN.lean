/- spencelaw22.awake: the chapter's example. (Several texts in one.) -/
import Derived.Test.YtniibcgomnjfgaaJAM
import Derived.Test.YtniibcgomnjfgaaJAK
import Derived.Test.YtniibcgomnjfgaaJAG
import Derived.Test.YtniibcgomnjfgaaJAE
import Derived.Test.YtniibcgomnjfgaaJAB
/-! real.Put of the example. -/
namespace Go.Proofs.Ytniibcgomnjfgaa
open Go.RowKit Pl Go.Agg
/-- the example -/
def xB : Bu := ⟨⟨z20, rfl⟩, ⟨z20, rfl⟩, ⟨(z20, [120]), rfl⟩, 3, []⟩
def xV : BuV := (xB, none, 0, 0)
def keyB : List UInt8 := ((98 :: z20) ++ z20) ++ [3]
def rowC (k : List UInt8) (v : Value) : Array Value := #[.string ⟨k.toArray⟩, v]
theorem row_under : Try.prog.underlying 48 = some (.struct (Try.prog.fieldsOf 48)) := by kernel_rfl
theorem row_info (k : List UInt8) (v : Value) : (Try.prog.info? 48).map (·.size) = some (rowC k v).size := by kernel_rfl
theorem row_one (k : List UInt8) (p : Option Addr) (n c : Nat) : (rowC k (.slice p n c)).all (·.oneCell') = true := by simp [rowC, Value.oneCell']
theorem row_load {w : World} {b : Nat} {k : List UInt8} {v : Value} (h : Blk w b 48 (rowC k v)) : LoadsL Try.prog w 48 (some ⟨b, 0, none⟩) (.agg (rowC k v)) := h.loads row_under rfl (by kernel_rfl)
theorem rowB_key {w : World} {b : Nat} {k0 : List UInt8} {v : Value} (h : Blk w b 48 (rowC k0 v)) (k : List UInt8) : ∃ w', (Instr.storeAt 9 (.pointer (some ⟨b, 0, none⟩)) (.string ⟨k.toArray⟩)).run Try.prog w = .ok () w' ∧ Blk w' b 48 (rowC k v) ∧ Only (· = b) w w' :=
  h.run_one 0 (by simp [rowC]) _ rfl rfl (by kernel_rfl) _ (by simp [rowC])
theorem rowB_val {w : World} {b : Nat} {k : List UInt8} {v0 : Value} (h : Blk w b 48 (rowC k v0)) (v : Value) (hv : v.cells = #[v]) (h1 : v.oneCell' = true) : ∃ w', (Instr.storeAt 46 (.pointer (some ⟨b, 1, none⟩)) v).run Try.prog w = .ok () w' ∧ Blk w' b 48 (rowC k v) ∧ Only (· = b) w w' :=
  h.run_one 1 (by simp [rowC]) _ hv h1 (by kernel_rfl) _ (by simp [rowC])
theorem exec_toStrB {o : Oper} {a : Act} {w : World} {x : Operand} {v : Value} {s : List UInt8} (ho : o.op = .convert 46 9 x) (hx : a.eval x = v) (hs : BytesAt w v s) : (execOp a.eval o).run Try.prog w = .ok (.value (.string ⟨s.toArray⟩)) w := by simp [execOp, ho, hx, run_toStr hs]
theorem xB_slice0 {w : World} {b : Nat} (h : Blk w b 35 (bC xV)) : BytesAt w (.slice (some ⟨b, 0, none⟩) 20 20) z20 :=
  .inr ⟨_, 20, rfl, h.lt, fun j v hj => by
    rw [add_plain, h.cell]
    refine bC_cl xV j v ?_
    rw [flat_bytes] at hj
    show (hC z20)[j]? = some v
    simpa [hC] using hj⟩
theorem xB_slice20 {w : World} {b : Nat} (h : Blk w b 35 (bC xV)) : BytesAt w (.slice (some ⟨b, 20, none⟩) 20 20) z20 :=
  .inr ⟨_, 20, rfl, h.lt, fun j v hj => by
    rw [add_plain, h.cell]
    refine bC_ky xV j v ?_
    rw [flat_bytes] at hj
    show (hC z20)[j]? = some v
    simpa [hC] using hj⟩
theorem mk_other {g b2 : Nat} {w w' : World} {v : Value} {l : List UInt8} {cs : Array Value} (hm : MkV g w v l) (hb : Blk w b2 48 cs) (ho : Only (· = b2) w w') (hne : g ≠ b2) : MkV g w' v l :=
  ⟨hm.blk.onlyP ho hne, hm.own.onlyT hb (by decide) (fun k h1 h2 => ho.block k h1 h2)⟩
theorem mk_row {g b2 : Nat} {w w' : World} {v v' : Value} {cs : Array Value} {l : List UInt8} {t : TypeId} (hm : MkV g w v l) (hb : Blk w b2 t cs) (ht : t ≠ 5) (hs : MkStep g w w' v v') (hne : b2 ≠ g) : Blk w' b2 t cs :=
  hb.onlyP hs.only fun h => h.elim hne fun e => by
    obtain ⟨_, cur, hc⟩ := hm.own.block _ e
    unfold Blk at hb
    rw [hb] at hc
    injection hc with hc
    injection hc with _ h2
    exact ht h2
set_option maxRecDepth 100000 in
set_option maxHeartbeats 16000000 in
theorem put22_ex (w : World) :
    Calls Try.prog 18 #[.agg (bC xV)] w fun e w' => ∃ v', e = .returned (.tuple #[.agg (rowC keyB v'), .int .i64 0]) ∧ BytesAt w' v' ((([] ++ z20) ++ (encN ([120] : List UInt8).length ++ [120])) ++ ([0] : List Nat).flatMap encN) ∧ Below w.heap.size w w' := by
  have HBLD := Lib.hid (fun W => (by kernel_rfl : (Instr.build 72 #[]).run Try.prog W = .ok (.agg (mkC (.slice none 0 0))) W))
  have HE1 := Lib.hid (show encN 1 = [1] from encN_lt (by omega))
  have HE0 := Lib.hid (show encN 0 = [0] from encN_lt (by omega))
  have hin : ∀ W, InsAt W xV := fun W => SliceOf.nil _ _ _
  have hlen : ∀ W, (Builtin.len_ #[33] 3 #[ivV xV.2]).run Try.prog W = .ok (.int .i64 ((0 : Nat) : Int)) W := fun W => mds_len (hin W) W
  go_enter Try.func18, Try.ntmps18
  go_wp2_with (first | (with_reducible refine wpList_box rfl 35 _ rfl (bC xV) rfl ?_; intro b1 w1 hb1 hx1 hg1; have HB1 := Lib.hid hb1; have HX1 := Lib.hid hx1; have HG1 := Lib.hid hg1; clear hb1 hx1 hg1) | (with_reducible refine wpList_zero rfl 48 rfl (rowC [] (.slice none 0 0)) (by kernel_rfl) ?_; intro b2 w2 hb2 hx2 hg2; have HR2 := Lib.hid hb2; have HB2 := Lib.hid (HB1.out.below hx2); have HL2 := Lib.hid (BuG.of_blk HB2.out); have HX2 := Lib.hid (Agg.belowThen HX1.out (Nat.le_refl _) hx2); have HG2 := Lib.hid (Nat.le_trans HX1.out.size hg2); have HN1 := Lib.hid (show b1 ≠ b2 from fun e => (by have := HB1.out.lt; omega)); clear hb2 hx2 hg2) | (with_reducible refine wpList_loadL HL2.out.all rfl _ rfl rfl ?_))
  refine (buRight_any xV w2 (hin _)).mono ?_
  rw [show rightBu xV.1 = true by decide]
  rintro e w3 ⟨rfl, hx3⟩
  have HB3 := Lib.hid (HB2.out.below hx3)
  have HR3 := Lib.hid (HR2.out.below hx3)
  have HX3 := Lib.hid (Agg.belowThen HX2.out (Nat.le_refl _) hx3)
  clear hx3
  go_wp2_with (first | (with_reducible refine Agg.wpList_build0 72 rfl rfl (.agg (mkC (.slice none 0 0))) HBLD.out ?_) | (with_reducible refine wpList_box rfl 72 _ rfl (mkC (.slice none 0 0)) rfl ?_; intro g4 w4 hb4 hx4 hg4; have HM4 := Lib.hid (⟨hb4, Own.nil _ _ _⟩ : MkV g4 w4 (.slice none 0 0) []); have HB4 := Lib.hid (HB3.out.below hx4); have HL4 := Lib.hid (BuG.of_blk HB4.out); have HR4 := Lib.hid (HR3.out.below hx4); have HX4 := Lib.hid (Agg.belowThen HX3.out (Nat.le_refl _) hx4); have HG4 := Lib.hid (Nat.le_trans HX3.out.size hg4); have HN4 := Lib.hid (show g4 ≠ b2 from fun e => (by have := HR3.out.lt; omega)); have HN5 := Lib.hid (show b1 ≠ g4 from fun e => (by have := HB3.out.lt; omega)); clear hb4 hx4 hg4) | (with_reducible refine wpList_loadL HL4.out.path rfl _ rfl rfl ?_))
  refine (path22_any g4 _ [] z20 [120] rfl (by decide) (by decide) w4 HM4.out).mono ?_
  rintro e w5 ⟨⟨r5, rfl⟩, v5, hm5, hs5⟩
  have HM5 := Lib.hid hm5
  have HB5 := Lib.hid (mk_row HM4.out HB4.out (by decide) hs5 HN5.out)
  have HR5 := Lib.hid (mk_row HM4.out HR4.out (by decide) hs5 (Ne.symm HN4.out))
  have HL5 := Lib.hid (BuG.of_blk HB5.out)
  have HX5 := Lib.hid (HX4.out.trans ((HM4.out.stepBelow hs5).mono HG4.out))
  clear hm5 hs5
  go_wp2_with (first | (with_reducible refine wpList_loadL HL5.out.ins rfl _ rfl rfl ?_) | (refine Agg.wpList_slice1 (E := EI) (base := w5.heap.size) rfl _ rfl (0 : Nat) rfl (Nat.le_refl _) ?_; intro xs6 w6 hxs hx6; have HXS := Lib.hid (Off.behind (w0 := w5) hxs.slice (fun k hk => (hxs.block k hk).1) HM5.out.blk.lt HM5.out.lt); have HM6 := Lib.hid (HM5.out.below hx6); have HB6 := Lib.hid (HB5.out.below hx6); have HR6 := Lib.hid (HR5.out.below hx6); have HX6 := Lib.hid (Agg.belowThen HX5.out (Nat.le_refl _) hx6); clear hxs hx6))
  refine (num_any g4 v5 xs6 [0] _ w6 (by intro n hn; simp only [List.mem_cons, List.not_mem_nil, or_false] at hn; omega) (by simp) (by simp [z20_length, HE1.out]) HXS.out HM6.out).mono ?_
  rintro e w7 ⟨rfl, v7, hm7, hs7⟩
  have HM7 := Lib.hid hm7
  have HB7 := Lib.hid (mk_row HM6.out HB6.out (by decide) hs7 HN5.out)
  have HR7 := Lib.hid (mk_row HM6.out HR6.out (by decide) hs7 (Ne.symm HN4.out))
  have HL7 := Lib.hid (BuG.of_blk HB7.out)
  have HX7 := Lib.hid (HX6.out.trans ((HM6.out.stepBelow hs7).mono HG4.out))
  clear hm7 hs7
  go_wp2_with (first | (with_reducible refine wpList_loadL HL7.out.ins rfl _ rfl rfl ?_))
  go_loopw [26] (fun i wr => i = .int .i64 0 ∧ wr = w7) (fun _ _ => 0)
  case atStart => exact ⟨rfl, rfl⟩
  case round =>
    obtain ⟨rfl, rfl⟩ := hrel
    go_wp2_with fail
    try simp only [Act.put, List.setIfInBounds_toArray, List.set_cons_succ, List.set_cons_zero]
    obtain ⟨w8, hw8⟩ : ∃ W, W = wr.drew := ⟨_, rfl⟩
    have hd : Below wr.heap.size wr w8 := by rw [hw8]; exact (Below.refl _ _).drew
    have HB8 := Lib.hid (HB7.out.below hd)
    have HR8 := Lib.hid (HR7.out.below hd)
    have HM8 := Lib.hid (HM7.out.below hd)
    have HX8 := Lib.hid (Agg.belowThen HX7.out (Nat.le_refl _) hd)
    refine wp_region_held_drew (S := fun W => Blk W b1 35 (bC xV)) (by kernel_rfl) (by rw [← hw8]; exact HB8.out) (fun hHeld => ?_)
    rw [← hw8] at hHeld ⊢
    clear hw8 hd
    refine Agg.held_take 0 (.pointer (some ⟨b1, 0, none⟩)) rfl (by kernel_rfl) (fun _ _ _ h => h) rfl (fun W _ => by kernel_rfl) (by assumption) ?_
    try simp only [Act.put, List.setIfInBounds_toArray, List.set_cons_succ, List.set_cons_zero]
    refine Agg.held_take 1 (.slice (some ⟨b1, 0, none⟩) 20 20) rfl (by kernel_rfl) (fun _ _ _ h => h) rfl (fun W _ => by kernel_rfl) (by assumption) ?_
    try simp only [Act.put, List.setIfInBounds_toArray, List.set_cons_succ, List.set_cons_zero]
    refine Agg.held_take 2 (.string ⟨z20.toArray⟩) rfl (by kernel_rfl) (fun _ _ _ h => h) rfl (fun W hS => exec_toStrB rfl rfl (xB_slice0 hS)) (by assumption) ?_
    try simp only [Act.put, List.setIfInBounds_toArray, List.set_cons_succ, List.set_cons_zero]
    refine Agg.held_take 3 (.string ⟨(98 :: z20).toArray⟩) rfl (by kernel_rfl) (fun _ _ _ h => h) rfl (fun W _ => by kernel_rfl) (by assumption) ?_
    try simp only [Act.put, List.setIfInBounds_toArray, List.set_cons_succ, List.set_cons_zero]
    refine Agg.held_take 4 (.pointer (some ⟨b1, 20, none⟩)) rfl (by kernel_rfl) (fun _ _ _ h => h) rfl (fun W _ => by kernel_rfl) (by assumption) ?_
    try simp only [Act.put, List.setIfInBounds_toArray, List.set_cons_succ, List.set_cons_zero]
    refine Agg.held_take 5 (.slice (some ⟨b1, 20, none⟩) 20 20) rfl (by kernel_rfl) (fun _ _ _ h => h) rfl (fun W _ => by kernel_rfl) (by assumption) ?_
    try simp only [Act.put, List.setIfInBounds_toArray, List.set_cons_succ, List.set_cons_zero]
    refine Agg.held_take 6 (.string ⟨z20.toArray⟩) rfl (by kernel_rfl) (fun _ _ _ h => h) rfl (fun W hS => exec_toStrB rfl rfl (xB_slice20 hS)) (by assumption) ?_
    try simp only [Act.put, List.setIfInBounds_toArray, List.set_cons_succ, List.set_cons_zero]
    refine Agg.held_take 7 (.string ⟨((98 :: z20) ++ z20).toArray⟩) rfl (by kernel_rfl) (fun _ _ _ h => h) rfl (fun W _ => by kernel_rfl) (by assumption) ?_
    try simp only [Act.put, List.setIfInBounds_toArray, List.set_cons_succ, List.set_cons_zero]
    refine Agg.held_take 8 (.pointer (some ⟨b1, 61, none⟩)) rfl (by kernel_rfl) (fun _ _ _ h => h) rfl (fun W _ => by kernel_rfl) (by assumption) ?_
    try simp only [Act.put, List.setIfInBounds_toArray, List.set_cons_succ, List.set_cons_zero]
    refine Agg.held_take 9 (.int .i64 3) rfl (by kernel_rfl) (fun _ _ _ h => h) rfl (fun W hS => exec_loadB rfl rfl (hS.one (ty := 3) 61 (by rw [show 61 = 61 + 0 from rfl, bC_tail]; rfl) Try.underlying3 rfl).now) (by assumption) ?_
    try simp only [Act.put, List.setIfInBounds_toArray, List.set_cons_succ, List.set_cons_zero]
    refine Agg.held_take 10 (.int .u8 3) rfl (by kernel_rfl) (fun _ _ _ h => h) rfl (fun W _ => by kernel_rfl) (by assumption) ?_
    try simp only [Act.put, List.setIfInBounds_toArray, List.set_cons_succ, List.set_cons_zero]
    refine Agg.held_ready [11] (by kernel_rfl) (by simp) ?_
    refine Agg.held_cons rfl ?_ ?_
    · refine Agg.step_slice1 (E := EB) rfl _ rfl (3 : UInt8) rfl ?_
      intro v11 w11 hys hx
      have HS11 := Lib.hid hys.slice
      have HB11 := Lib.hid (HB8.out.below hx)
      have HR11 := Lib.hid (HR8.out.below hx)
      have HM11 := Lib.hid (HM8.out.below hx)
      have HX11 := Lib.hid (Agg.belowThen HX8.out (Nat.le_refl _) hx)
      clear hys hx
      refine ⟨HB11.out, ?_⟩
      try simp only [Act.put, List.setIfInBounds_toArray, List.set_cons_succ, List.set_cons_zero]
      refine Agg.held_ready [12] (by kernel_rfl) (by simp) ?_
      refine Agg.held_cons rfl ?_ ?_
      · refine Agg.step_val rfl (v := .string ⟨([3] : List UInt8).toArray⟩) (w' := w11) (exec_toStrB rfl rfl HS11.out) ?_
        refine ⟨HB11.out, ?_⟩
        try simp only [Act.put, List.setIfInBounds_toArray, List.set_cons_succ, List.set_cons_zero]
        refine Agg.held_take 13 (.string ⟨keyB.toArray⟩) rfl (by kernel_rfl) (fun _ _ _ h => h) rfl (fun W _ => by kernel_rfl) (by assumption) ?_
        try simp only [Act.put, List.setIfInBounds_toArray, List.set_cons_succ, List.set_cons_zero]
        refine Agg.held_take 14 (.pointer (some ⟨b2, 0, none⟩)) rfl (by kernel_rfl) (fun _ _ _ h => h) rfl (fun W _ => by kernel_rfl) (by assumption) ?_
        try simp only [Act.put, List.setIfInBounds_toArray, List.set_cons_succ, List.set_cons_zero]
        refine Agg.held_ready [15] (by kernel_rfl) (by simp) ?_
        refine Agg.held_cons rfl ?_ ?_
        · obtain ⟨w15, hr15, hb15, ho15⟩ := rowB_key HR11.out keyB
          refine Agg.step_store rfl rfl 9 _ _ rfl (.pointer (some ⟨b2, 0, none⟩)) (.string ⟨keyB.toArray⟩) rfl rfl hr15 ?_
          have HB15 := Lib.hid (HB11.out.onlyP ho15 HN1.out)
          have HM15 := Lib.hid (mk_other HM11.out HR11.out ho15 HN4.out)
          have HR15 := Lib.hid hb15
          have HX15 := Lib.hid (HX11.out.trans (ho15.below (B := w.heap.size) HX11.out.size (fun i hi => by subst hi; exact HG2.out)))
          clear hr15 hb15 ho15
          refine ⟨HB15.out, ?_⟩
          try simp only [Act.put, List.setIfInBounds_toArray, List.set_cons_succ, List.set_cons_zero]
          refine Agg.held_end (by kernel_rfl) ?_
          go_wp2_with fail
          refine (done_any g4 _ _ _ (by simp [z20_length, HE1.out, HE0.out]) HM15.out).mono ?_
          rintro e w16 ⟨v16, rfl, ho16, hx16⟩
          obtain ⟨p16, n16, c16, rfl⟩ : ∃ p n c, v16 = .slice p n c := (by obtain ⟨p, c, h⟩ := ho16.slice.form; exact ⟨p, _, c, h⟩)
          obtain ⟨w17, hr17, hb17, ho17⟩ := rowB_val (HR15.out.below hx16) (.slice p16 n16 c16) rfl rfl
          have HR17 := Lib.hid hr17
          have HRL := Lib.hid (row_load hb17)
          have HB17 := Lib.hid hb17
          have HO17 := Lib.hid (ho16.onlyT (HR15.out.below hx16) (by decide) (fun k h1 h2 => ho17.block k h1 h2))
          have HX16 := Lib.hid (Agg.belowThen HX15.out (Nat.le_refl _) hx16)
          have HX17 := Lib.hid (HX16.out.trans (ho17.below (B := w.heap.size) HX16.out.size (fun i hi => by subst hi; exact HG2.out)))
          clear hr17 hb17 ho17 ho16 hx16
          go_wp2_with (first | (with_reducible refine wpList_store rfl rfl 46 _ _ rfl (.pointer (some ⟨b2, 1, none⟩)) (.slice p16 n16 c16) rfl rfl HR17.out ?_) | (with_reducible refine wpList_loadL HRL.out rfl _ rfl rfl ?_) | ((with_reducible refine wpList_put rfl rfl 48 _ _ rfl b2 (rowC keyB (.slice p16 n16 c16)) (rowC keyB (.slice p16 n16 c16)) rfl rfl HB17.out (row_info _ _) rfl (row_one _ _ _ _) ?_); intro w18 hb18 hx18 hs18 hk18; have HB18 := Lib.hid hb18; have HO18 := Lib.hid (HO17.out.onlyT HB17.out (by decide) (fun k _ h2 => hk18 k h2)); have HX18 := Lib.hid (HX17.out.trans (hx18.mono HG2.out)); clear hb18 hx18 hs18 hk18))
          exact post_row_tmp rfl rfl rfl HB18.out row_under rfl (by kernel_rfl) rfl ⟨_, rfl, HO18.out.slice, HX18.out⟩
        exact AllReadyH.nil
      exact AllReadyH.nil
    exact AllReadyH.nil
end Go.Proofs.Ytniibcgomnjfgaa
/-! spencekit.SameBytes. -/
namespace Go.Proofs.Ytniibcgomnjfgaa
open Go.RowKit Pl Go.Agg
theorem take_eq_succ {α : Type} {a b : List α} {k : Nat} {x y : α} (hx : a[k]? = some x) (hy : b[k]? = some y) (h : a.take k = b.take k) (hxy : x = y) : a.take (k + 1) = b.take (k + 1) := by
  rw [List.take_add_one, List.take_add_one, hx, hy, h, hxy]
theorem ne_at {α : Type} {a b : List α} {k : Nat} {x y : α} (hx : a[k]? = some x) (hy : b[k]? = some y) (hxy : x ≠ y) : a ≠ b := by
  rintro rfl
  exact hxy (Option.some.inj (hx.symm.trans hy))
theorem i64_nat {a b : Nat} (h : a = b) : Value.int .i64 (a : Int) = .int .i64 (b : Int) := by rw [h]
set_option maxRecDepth 100000 in
set_option maxHeartbeats 1000000 in
theorem sameBytes_any (v u : Value) (a b : List UInt8) (_ha : a.length ≤ 1048576) (hb : b.length ≤ 1048576) (w : World) (he : BytesAt w v a) (hf : BytesAt w u b) :
    Calls Try.prog 20 #[v, u] w fun e w' => e = .returned (.bool (decide (a = b))) ∧ Below w.heap.size w w' := by
  have hlv := fun W => bytes_len he W
  have hlu := fun W => bytes_len hf W
  have HE := Lib.hid he
  have HF := Lib.hid hf
  clear he hf
  by_cases hlen : a.length = b.length
  · have hne : ((a.length : Int) != (b.length : Int)) = false := by simp [hlen]
    have HLEN := Lib.hid hlen
    rw [hlen] at hlv hne
    clear hlen
    go_enter Try.func20, Try.ntmps20
    go_wp2_with fail
    go_loopw [5] (fun i wr => ∃ k : Nat, k ≤ b.length ∧ i = .int .i64 k ∧ a.take k = b.take k ∧ Below w.heap.size w wr) (fun i _ => b.length - (intOf i).toNat)
    case atStart => exact ⟨0, by omega, rfl, rfl, Below.refl _ _⟩
    case round =>
      obtain ⟨w1, rfl⟩ : ∃ w1 : World, w1 = wr := ⟨_, rfl⟩
      obtain ⟨k, hk, rfl, htk, hw⟩ := hrel
      have HTK := Lib.hid htk
      clear htk
      by_cases hlt : k < b.length
      · obtain ⟨y, hyk⟩ : ∃ y, b[k]? = some y := ⟨_, List.getElem?_eq_getElem hlt⟩
        obtain ⟨x, hxk⟩ : ∃ x, a[k]? = some x := ⟨_, List.getElem?_eq_getElem (by rw [HLEN.out]; exact hlt)⟩
        obtain ⟨p, hadr, hld⟩ := byte_at (HE.out.below hw) k x hxk
        obtain ⟨q, hadq, hlq⟩ := byte_at (HF.out.below hw) k y hyk
        have HLX := Lib.hid hld
        have HLY := Lib.hid hlq
        clear hld hlq
        have HX := Lib.hid hxk
        have HY := Lib.hid hyk
        clear hxk hyk
        by_cases hxy : x = y
        · have HXY := Lib.hid hxy
          have hq : ((x.toNat : Int) != (y.toNat : Int)) = false := by simp [hxy]
          clear hxy
          go_wp2_with fail
          try simp only [Act.put, List.setIfInBounds_toArray, List.set_cons_succ, List.set_cons_zero]
          refine Agg.wp_region_later_lit (by kernel_rfl) (by kernel_rfl) ?_
          repeat (first | go_big_quiet_skip | ((first | (with_reducible refine Agg.wpQuiet_loadL HLX.out rfl _ rfl rfl ?_) | (with_reducible refine Agg.wpQuiet_loadL HLY.out rfl _ rfl rfl ?_)); simp only [Act.put, List.setIfInBounds_toArray, List.set_cons_succ, List.set_cons_zero]) | go_big_quiet_step (fail))
          refine wpQuiet_nil ?_
          intro _ hw'
          obtain ⟨x1, rfl⟩ := hw'
          go_wp2_with fail
          go_roundw
          case rel => exact ⟨k + 1, by omega, by go_num, take_eq_succ HX.out HY.out HTK.out HXY.out, Agg.belowThen hw (Nat.le_refl _) x1.h⟩
          case measure => simp [intOf]; omega
        · have HXY := Lib.hid hxy
          have hq : ((x.toNat : Int) != (y.toNat : Int)) = true := by rw [bne_iff_ne]; intro e; exact hxy (UInt8.toNat_inj.1 (by omega))
          clear hxy
          go_wp2_with fail
          try simp only [Act.put, List.setIfInBounds_toArray, List.set_cons_succ, List.set_cons_zero]
          refine Agg.wp_region_later_lit (by kernel_rfl) (by kernel_rfl) ?_
          repeat (first | go_big_quiet_skip | ((first | (with_reducible refine Agg.wpQuiet_loadL HLX.out rfl _ rfl rfl ?_) | (with_reducible refine Agg.wpQuiet_loadL HLY.out rfl _ rfl rfl ?_)); simp only [Act.put, List.setIfInBounds_toArray, List.set_cons_succ, List.set_cons_zero]) | go_big_quiet_step (fail))
          refine wpQuiet_nil ?_
          intro _ hw'
          obtain ⟨x1, rfl⟩ := hw'
          have hres : decide (a = b) = false := by simpa using ne_at HX.out HY.out HXY.out
          have HR := Lib.hid hres
          clear hres
          go_wp2_with fail
          go_ret
          exact ⟨ret_bool HR.out.symm, Agg.belowThen hw (Nat.le_refl _) x1.h⟩
      · obtain rfl : k = b.length := by omega
        have hres : decide (a = b) = true := by
          have := HTK.out
          rw [List.take_length, List.take_of_length_le (by rw [HLEN.out]; omega)] at this
          simpa using this
        have HR := Lib.hid hres
        clear hres
        go_wp2_with fail
        go_ret
        exact ⟨ret_bool HR.out.symm, hw⟩
  · have hne : ((a.length : Int) != (b.length : Int)) = true := by rw [bne_iff_ne]; omega
    have hres : decide (a = b) = false := by simp; exact fun e => hlen (by rw [e])
    have HR := Lib.hid hres
    clear hres
    go_enter Try.func20, Try.ntmps20
    go_wp2_with fail
    go_ret
    exact ⟨ret_bool HR.out.symm, Below.refl _ _⟩
end Go.Proofs.Ytniibcgomnjfgaa
/-! spencelaw22.awake: the chapter's example. -/
namespace Go.Proofs.Ytniibcgomnjfgaa
open Go.RowKit Pl Go.Agg
theorem build_h0B (w : World) : (Instr.build 30 #[(0, .int .u8 0)]).run Try.prog w = .ok (.agg (hC z20)) w := by kernel_rfl
theorem build_pxB (w : World) : (Instr.build 32 #[(1, .string ⟨#[120]⟩)]).run Try.prog w = .ok (.agg (pC z20 [120])) w := by kernel_rfl
theorem build_xB (w : World) : (Instr.build 35 #[(0, .agg (hC z20)), (1, .agg (hC z20)), (2, .agg (pC z20 [120])), (3, .int .i64 3)]).run Try.prog w = .ok (.agg (bC xV)) w := by kernel_rfl
set_option maxRecDepth 100000 in
set_option maxHeartbeats 4000000 in
theorem built22_ex (w : World) : Calls Try.prog 19 #[.int .i64 0, .int .i64 0, .int .i64 3] w fun e w' => e = .returned (.agg (bC xV)) ∧ Below w.heap.size w w' := by
  go_enter Try.func19, Try.ntmps19
  go_wp2_with (first | (with_reducible refine wpList_zero rfl 35 rfl (bC (zB, none, 0, 0)) bC_zero ?_; intro g1 w1 hb1 hx1 hg1; have HB1 := Lib.hid hb1; have HX1 := Lib.hid hx1; have HG1 := Lib.hid hg1; clear hb1 hx1 hg1) | (with_reducible refine Agg.wpList_build rfl 30 _ rfl (.agg (hC z20)) #[(0, .int .u8 0)] (by kernel_rfl) (build_h0B _) ?_) | (with_reducible refine Agg.wpList_build rfl 32 _ rfl (.agg (pC z20 [120])) #[(1, .string ⟨#[120]⟩)] (by kernel_rfl) (build_pxB _) ?_) | (with_reducible refine Agg.wpList_build rfl 35 _ rfl (.agg (bC xV)) #[(0, .agg (hC z20)), (1, .agg (hC z20)), (2, .agg (pC z20 [120])), (3, .int .i64 3)] (by kernel_rfl) (build_xB _) ?_) | ((with_reducible refine wpList_put rfl rfl 35 _ _ rfl g1 (bC xV) (bC (zB, none, 0, 0)) rfl rfl HB1.out (bC_info _) (by rw [bC_size, bC_size]) (bC_one _) ?_); intro w2 hb2 hx2 hs2 _; have HB2 := Lib.hid hb2; have HX2 := Lib.hid (HX1.out.trans (hx2.mono HG1.out)); clear hb2 hx2 hs2))
  exact post_row rfl rfl HB2.out bC_under rfl (bC_info _) rfl ⟨rfl, HX2.out⟩
section
variable {ops : Array Oper} {o : Oper} {a : Act} {w : World} {Q : Exit → Act → World → Prop} {K : Act → World → Prop} {F : Prop}
theorem step_make20 (hg : o.guard = none) (x y : Operand) (ho : o.op = .makeSlice 46 x y) (hx : a.eval x = .int .i64 20) (hy : a.eval y = .int .i64 20)
    (h : ∀ v' w', Own EB w.heap.size w' v' (List.replicate 20 0) → Below w.heap.size w w' → K (a.put o.dst v') w') : if Region.wanted o (yielded ops a.tmps) = true then o.wp Try.prog a w K Q else F := by
  have hb : (Instr.makeSlice 46 (.int .i64 20) (.int .i64 20)).run Try.prog w = .ok (.slice (some ⟨w.heap.size, 0, none⟩) 20 20) (w.alloc (.cells (Lib.byteCells (List.replicate 20 0)).toArray 5)) := by kernel_rfl
  refine step_val hg (v := .slice (some ⟨w.heap.size, 0, none⟩) 20 20) (w' := w.alloc (.cells (Lib.byteCells (List.replicate 20 0)).toArray 5)) (by simp [execOp, ho, hx, hy, hb]) (h _ _ ⟨EB.flat_length _, .inr ⟨_, 20, _, rfl, Nat.le_refl _, heap_alloc_new w _, Nat.le_refl _, by unfold maxLen; omega, rfl, ?_⟩⟩ ((Below.refl _ _).alloc (Nat.le_refl _) _))
  rw [flat_bytes]; rfl
theorem step_bytes3 (hg : o.guard = none) (x y z : Operand) (ho : o.op = .buildSlice 46 3 #[(0, x), (1, y), (2, z)]) (p q r : UInt8) (hx : a.eval x = EB.val p) (hy : a.eval y = EB.val q) (hz : a.eval z = EB.val r)
    (h : ∀ v' w', BytesAt w' v' [p, q, r] → Below w.heap.size w w' → K (a.put o.dst v') w') : if Region.wanted o (yielded ops a.tmps) = true then o.wp Try.prog a w K Q else F := by
  have hb : (Instr.buildSlice 46 3 #[(0, EB.val p), (1, EB.val q), (2, EB.val r)]).run Try.prog w = .ok (.slice (some ⟨w.heap.size, 0, none⟩) 3 3) (w.alloc (.cells #[EB.val p, EB.val q, EB.val r] 5)) := by kernel_rfl
  have hB := Blk.new w 5 #[EB.val p, EB.val q, EB.val r]
  refine step_val hg (v := .slice (some ⟨w.heap.size, 0, none⟩) 3 3) (w' := w.alloc (.cells #[EB.val p, EB.val q, EB.val r] 5)) (by simp [execOp, ho, hx, hy, hz, hb]) (h _ _ (.inr ⟨_, 3, rfl, hB.lt, fun j u hj => ?_⟩) ((Below.refl _ _).alloc (Nat.le_refl _) _))
  have e : EB.flat [p, q, r] = (#[EB.val p, EB.val q, EB.val r] : Array Value).toList := rfl
  rw [e] at hj
  rw [add_plain, Nat.zero_add, hB.cell, ← Array.getElem?_toList]; exact hj
end
theorem row_key {w : World} {b : Nat} {k : List UInt8} {v : Value} (h : Blk w b 48 (rowC k v)) : LoadsL Try.prog w 9 (some ⟨b, 0, none⟩) (.string ⟨k.toArray⟩) := h.one 0 rfl Try.underlying9 rfl
set_option maxRecDepth 100000 in
set_option maxHeartbeats 8000000 in
theorem awake22_any (w : World) : Calls Try.prog 5 #[] w fun e w' => e = .returned (.bool true) ∧ Below w.heap.size w w' := by
  have HES := Lib.hid (enters_of Try.func20 (by kernel_rfl) rfl : ∀ args w, (callFunc 20 args).run Try.prog w = .ok (.enter 20 args) w)
  have HE1 := Lib.hid (show encN 1 = [1] from encN_lt (by omega))
  have HE0 := Lib.hid (show encN 0 = [0] from encN_lt (by omega))
  have HEQ := Lib.hid (show ((([] ++ z20) ++ (encN ([120] : List UInt8).length ++ [120])) ++ ([0] : List Nat).flatMap encN) = List.replicate 20 0 ++ [1, 120, 0] by simp [HE1.out, HE0.out]; rfl)
  have hlen : ∀ W, (Builtin.len_ #[9] 3 #[.string ⟨keyB.toArray⟩]).run Try.prog W = .ok (.int .i64 42) W := fun W => by kernel_rfl
  have hi0 : ∀ W, (Instr.index 9 (.string ⟨keyB.toArray⟩) (.int .i64 0)).run Try.prog W = .ok (.int .u8 98) W := fun W => by kernel_rfl
  have hi1 : ∀ W, (Instr.index 9 (.string ⟨keyB.toArray⟩) (.int .i64 1)).run Try.prog W = .ok (.int .u8 0) W := fun W => by kernel_rfl
  have hi41 : ∀ W, (Instr.index 9 (.string ⟨keyB.toArray⟩) (.int .i64 41)).run Try.prog W = .ok (.int .u8 3) W := fun W => by kernel_rfl
  go_enter Try.func5, Try.ntmps5
  go_wp2_with fail
  refine (built22_ex w).mono ?_
  rintro e w1 ⟨rfl, hx1⟩
  have HX1 := Lib.hid hx1
  clear hx1
  go_wp2_with fail
  refine (put22_ex w1).mono ?_
  rintro e w3 ⟨v3, rfl, hv3, hx3⟩
  have HV3 := Lib.hid hv3
  obtain ⟨p3, n3, c3, rfl⟩ : ∃ p n c, v3 = .slice p n c := (by obtain ⟨p, c, h⟩ := hv3.form; exact ⟨p, _, c, h⟩)
  have HX3 := Lib.hid (Agg.belowThen HX1.out (Nat.le_refl _) hx3)
  clear hx3 hv3
  go_wp2_with (first | (refine wpList_new rfl rfl rfl 48 1 6 rfl rfl rfl (by decide) (rowC [] (.slice none 0 0)) (rowC keyB (.slice p3 n3 c3)) (by kernel_rfl) rfl (row_info _ _) (row_one _ _ _ _) rfl (by simp [Act.put]) ?_; intro b5 w5 hb5 hx5 hg5; have HR5 := Lib.hid hb5; have HV5 := Lib.hid (HV3.out.below hx5); have HX5 := Lib.hid (Agg.belowThen HX3.out (Nat.le_refl _) hx5); have HKL := Lib.hid (row_key hb5); clear hb5 hx5 hg5) | (with_reducible refine wpList_loadL HKL.out rfl _ rfl rfl ?_))
  try simp only [Act.put, List.setIfInBounds_toArray, List.set_cons_succ, List.set_cons_zero]
  obtain ⟨v3, hv3⟩ : ∃ v, v = Value.slice p3 n3 c3 := ⟨_, rfl⟩
  rw [← hv3] at HR5 HV5
  clear HV3 hv3
  obtain ⟨w0, hw0⟩ : ∃ W, W = w5.drew := ⟨_, rfl⟩
  have hd : Below w5.heap.size w5 w0 := by rw [hw0]; exact (Below.refl _ _).drew
  have HR0 := Lib.hid (HR5.out.below hd)
  have HRL := Lib.hid HR0.out.lt
  have HV0 := Lib.hid (HV5.out.below hd)
  have HX0 := Lib.hid (Below.refl w0.heap.size w0)
  have HW0 := Lib.hid (Agg.belowThen HX5.out (Nat.le_refl _) hd)
  refine wp_region_held_drew (S := fun W => Blk W b5 48 (rowC keyB v3)) (by kernel_rfl) (by rw [← hw0]; exact HR0.out) (fun hHeld => ?_)
  rw [← hw0] at hHeld ⊢
  clear hw0 hd
  refine Agg.held_take 0 (.pointer (some ⟨b5, 1, none⟩)) rfl (by kernel_rfl) (fun _ _ _ h => h) rfl (fun W _ => by kernel_rfl) (by assumption) ?_
  try simp only [Act.put, List.setIfInBounds_toArray, List.set_cons_succ, List.set_cons_zero]
  refine Agg.held_take 1 (v3) rfl (by kernel_rfl) (fun _ _ _ h => h) rfl (fun W hS => exec_loadB rfl rfl (hS.one (ty := 46) 1 rfl (by kernel_rfl : Try.prog.underlying 46 = some (.slice 5)) rfl).now) (by assumption) ?_
  try simp only [Act.put, List.setIfInBounds_toArray, List.set_cons_succ, List.set_cons_zero]
  refine Agg.held_ready [2, 3] (by kernel_rfl) (by simp) ?_
  refine Agg.held_cons rfl ?_ ?_
  · refine step_make20 rfl _ _ rfl rfl rfl ?_
    intro u2 w_2 ho hx
    have HO_2 := Lib.hid (ho.lower HX0.out.size)
    have HR_2 := Lib.hid (HR0.out.below hx)
    have HX_2 := Lib.hid (Agg.belowThen HX0.out (Nat.le_refl _) hx)
    have HV_2 := Lib.hid (HV0.out.below hx)
    clear ho hx
    refine ⟨HR_2.out, ?_⟩
    try simp only [Act.put, List.setIfInBounds_toArray, List.set_cons_succ, List.set_cons_zero]
    refine Agg.held_ready [3] (by kernel_rfl) (by simp) ?_
    refine Agg.held_cons rfl ?_ ?_
    · refine step_bytes3 rfl _ _ _ rfl 1 120 0 rfl rfl rfl ?_
      intro u3 w_2_3 hs hx
      have HS_2_3 := Lib.hid hs
      have HR_2_3 := Lib.hid (HR_2.out.below hx)
      have HX_2_3 := Lib.hid (Agg.belowThen HX_2.out (Nat.le_refl _) hx)
      have HV_2_3 := Lib.hid (HV_2.out.below hx)
      have HO_2_3 := Lib.hid (HO_2.out.below hx)
      clear hs hx
      refine ⟨HR_2_3.out, ?_⟩
      try simp only [Act.put, List.setIfInBounds_toArray, List.set_cons_succ, List.set_cons_zero]
      refine Agg.held_ready [4] (by kernel_rfl) (by simp) ?_
      refine Agg.held_cons rfl ?_ ?_
      · refine step_appendS (E := EB) (base := w0.heap.size) rfl _ _ rfl u3 rfl rfl [1, 120, 0] HO_2_3.out HS_2_3.out (by simp) (by decide) HX_2_3.out.size ?_
        intro u4 w_2_3_4 ho hp
        have hx := hp.below w0.heap.size (Nat.le_refl _) HX_2_3.out.size
        have HA_2_3_4 := Lib.hid ho.slice
        have HR_2_3_4 := Lib.hid (HR_2_3.out.belowAt hx HRL.out)
        have HX_2_3_4 := Lib.hid (HX_2_3.out.trans hx)
        have HV_2_3_4 := Lib.hid (HV0.out.below HX_2_3_4.out)
        clear ho hp hx
        refine ⟨HR_2_3_4.out, ?_⟩
        try simp only [Act.put, List.setIfInBounds_toArray, List.set_cons_succ, List.set_cons_zero]
        refine Agg.held_ready [5] (by kernel_rfl) (by simp) ?_
        refine Agg.held_cons rfl ?_ ?_
        · refine Agg.step_call rfl 20 _ _ rfl #[v3, u4] (by simp only [List.map_toArray, List.map_cons, List.map_nil]; rfl) (fun W => HES.out _ W) ?_
          refine (sameBytes_any v3 u4 _ _ (by rw [HEQ.out]; decide) (by decide) _ HV_2_3_4.out HA_2_3_4.out).mono ?_
          rintro x w9 ⟨rfl, hx⟩
          have HR9 := Lib.hid (HR_2_3_4.out.below hx)
          have HX9 := Lib.hid (Agg.belowThen HX_2_3_4.out (Nat.le_refl _) hx)
          clear hx
          refine ⟨.bool true, by rw [HEQ.out]; exact ret_bool (decide_eq_true rfl), ?_⟩
          refine ⟨HR9.out, ?_⟩
          try simp only [Act.put, List.setIfInBounds_toArray, List.set_cons_succ, List.set_cons_zero]
          refine Agg.held_take 6 (.bool true) rfl (by kernel_rfl) (fun _ _ _ h => h) rfl (fun W _ => by kernel_rfl) (by assumption) ?_
          try simp only [Act.put, List.setIfInBounds_toArray, List.set_cons_zero]
          refine Agg.held_end (by kernel_rfl) ?_
          go_wp2_with fail
          go_ret
          exact ⟨rfl, HW0.out.trans (HX9.out.mono HW0.out.size)⟩
        exact AllReadyH.nil
      exact AllReadyH.nil
    exact AllReadyH.nil
  refine Agg.held_cons rfl ?_ ?_
  · refine step_bytes3 rfl _ _ _ rfl 1 120 0 rfl rfl rfl ?_
    intro u3 w_3 hs hx
    have HS_3 := Lib.hid hs
    have HR_3 := Lib.hid (HR0.out.below hx)
    have HX_3 := Lib.hid (Agg.belowThen HX0.out (Nat.le_refl _) hx)
    have HV_3 := Lib.hid (HV0.out.below hx)
    clear hs hx
    refine ⟨HR_3.out, ?_⟩
    try simp only [Act.put, List.setIfInBounds_toArray, List.set_cons_succ, List.set_cons_zero]
    refine Agg.held_ready [2] (by kernel_rfl) (by simp) ?_
    refine Agg.held_cons rfl ?_ ?_
    · refine step_make20 rfl _ _ rfl rfl rfl ?_
      intro u2 w_2_3 ho hx
      have HO_2_3 := Lib.hid (ho.lower HX_3.out.size)
      have HR_2_3 := Lib.hid (HR_3.out.below hx)
      have HX_2_3 := Lib.hid (Agg.belowThen HX_3.out (Nat.le_refl _) hx)
      have HV_2_3 := Lib.hid (HV_3.out.below hx)
      have HS_2_3 := Lib.hid (HS_3.out.below hx)
      clear ho hx
      refine ⟨HR_2_3.out, ?_⟩
      try simp only [Act.put, List.setIfInBounds_toArray, List.set_cons_succ, List.set_cons_zero]
      refine Agg.held_ready [4] (by kernel_rfl) (by simp) ?_
      refine Agg.held_cons rfl ?_ ?_
      · refine step_appendS (E := EB) (base := w0.heap.size) rfl _ _ rfl u3 rfl rfl [1, 120, 0] HO_2_3.out HS_2_3.out (by simp) (by decide) HX_2_3.out.size ?_
        intro u4 w_2_3_4 ho hp
        have hx := hp.below w0.heap.size (Nat.le_refl _) HX_2_3.out.size
        have HA_2_3_4 := Lib.hid ho.slice
        have HR_2_3_4 := Lib.hid (HR_2_3.out.belowAt hx HRL.out)
        have HX_2_3_4 := Lib.hid (HX_2_3.out.trans hx)
        have HV_2_3_4 := Lib.hid (HV0.out.below HX_2_3_4.out)
        clear ho hp hx
        refine ⟨HR_2_3_4.out, ?_⟩
        try simp only [Act.put, List.setIfInBounds_toArray, List.set_cons_succ, List.set_cons_zero]
        refine Agg.held_ready [5] (by kernel_rfl) (by simp) ?_
        refine Agg.held_cons rfl ?_ ?_
        · refine Agg.step_call rfl 20 _ _ rfl #[v3, u4] (by simp only [List.map_toArray, List.map_cons, List.map_nil]; rfl) (fun W => HES.out _ W) ?_
          refine (sameBytes_any v3 u4 _ _ (by rw [HEQ.out]; decide) (by decide) _ HV_2_3_4.out HA_2_3_4.out).mono ?_
          rintro x w9 ⟨rfl, hx⟩
          have HR9 := Lib.hid (HR_2_3_4.out.below hx)
          have HX9 := Lib.hid (Agg.belowThen HX_2_3_4.out (Nat.le_refl _) hx)
          clear hx
          refine ⟨.bool true, by rw [HEQ.out]; exact ret_bool (decide_eq_true rfl), ?_⟩
          refine ⟨HR9.out, ?_⟩
          try simp only [Act.put, List.setIfInBounds_toArray, List.set_cons_succ, List.set_cons_zero]
          refine Agg.held_take 6 (.bool true) rfl (by kernel_rfl) (fun _ _ _ h => h) rfl (fun W _ => by kernel_rfl) (by assumption) ?_
          try simp only [Act.put, List.setIfInBounds_toArray, List.set_cons_zero]
          refine Agg.held_end (by kernel_rfl) ?_
          go_wp2_with fail
          go_ret
          exact ⟨rfl, HW0.out.trans (HX9.out.mono HW0.out.size)⟩
        exact AllReadyH.nil
      exact AllReadyH.nil
    exact AllReadyH.nil
  exact AllReadyH.nil
end Go.Proofs.Ytniibcgomnjfgaa
