/- spencekit.LentMades, KeptMades. (Several texts in one.) -/
import Derived.Test.YtgekpghjlhcpkaaDBG
import Derived.Test.YtgekpghjlhcpkaaDBC
import Derived.Test.YtgekpghjlhcpkaaDAZ
import Derived.Test.YtgekpghjlhcpkaaDAL
import Derived.Test.YtgekpghjlhcpkaaDAD
import Derived.Test.YtgekpghjlhcpkaaDAA
/-! spencekit.LentDrv, KeptDrv. -/
namespace Go.Agg
open Go.RowKit
variable {P : Program}
/-- one cell of a block written: what stays -/
theorem Blk.put {w : World} {g : Nat} {t ty : TypeId} {cs : Array Value} (h : Blk w g t cs) (i : Nat) (hi : i < cs.size) (v : Value) (hv : v.cells = #[v]) (h1 : v.oneCell' = true) (hs : (P.info? ty).map (·.size) = some 1) :
    ∃ w', (Instr.storeAt ty (.pointer (some ⟨g, i, none⟩)) v).run P w = .ok () w' ∧ Blk w' g t (cs.setIfInBounds i v) ∧ Only (· = g) w w' ∧ w'.heap.size = w.heap.size :=
  ⟨_, h.run_put i hi v hv h1 hs, h.set i v, ⟨rfl, rfl, rfl, by simp [World.setCell], fun k _ hk => Below.heap_setCell _ _ _ _ hk⟩, by simp [World.setCell]⟩
end Go.Agg
namespace Go.Proofs.Ytgekpghjlhcpkaa
open Go.RowKit Pl Go.Agg
/-- a derivation whose lists are lent -/
def LentD (base : Nat) (w : World) (v : Value) (d : Drv) : Prop := ∃ ui ur, v = .agg #[.string ⟨d.1.toArray⟩, ui, ur] ∧ Lent ENm (marksN 1 12) base w ui d.2.1 ∧ Lent EB (marks 1 12) base w ur d.2.2
theorem LentD.drv {base : Nat} {w : World} {v : Value} {d : Drv} (h : LentD base w v d) : DrvAt w v d := by
  obtain ⟨ui, ur, rfl, h1, h2⟩ := h
  exact ⟨ui, ur, rfl, h1.slice, h2.slice⟩
theorem LentD.below {base : Nat} {w w' : World} {v : Value} {d : Drv} (h : LentD base w v d) (hb : Below w.heap.size w w') : LentD base w' v d := by
  obtain ⟨ui, ur, rfl, h1, h2⟩ := h
  exact ⟨ui, ur, rfl, h1.below hb, h2.below hb⟩
theorem drvZ : (Try.prog.info? 25).map (·.zero) = some (some (.agg #[.string .empty, .slice none 0 0, .slice none 0 0])) := by kernel_rfl
theorem drvU : Try.prog.underlying 25 = some (.struct (Try.prog.fieldsOf 25)) := by kernel_rfl
set_option maxRecDepth 100000 in
set_option maxHeartbeats 1000000 in
theorem lentDrv_any (v : Value) (d : Drv) (h1 : d.2.1.length ≤ 1048576) (h2 : d.2.2.length ≤ 1048576) (w : World) (hd : DrvAt w v d) :
    Calls Try.prog 8 #[v] w fun e w' => ∃ u, e = .returned u ∧ Below w.heap.size w w' ∧ LentD w.heap.size w' u d := by
  obtain ⟨vi, vr, rfl, hvi, hvr⟩ := hd
  have HVI := Lib.hid hvi
  have HVR := Lib.hid hvr
  clear hvi hvr
  go_enter Try.func8, Try.ntmps8
  go_wp2_with (first | (with_reducible refine Agg.wpList_box rfl 25 _ rfl (#[.string ⟨d.1.toArray⟩, vi, vr]) rfl ?_; intro g w1 hb hx1 hg) | (with_reducible refine Agg.wpList_zero rfl 25 rfl (#[.string .empty, .slice none 0 0, .slice none 0 0]) drvZ ?_; intro g2 w2 hb2 hx2 hg2) | (with_reducible refine Agg.wpList_loadL ((DrvL.of_blk hb).below hx2).inp rfl _ rfl rfl ?_))
  have hw2 := Agg.belowThen hx1 (Nat.le_refl _) hx2
  have hlg := hb.lt
  have hlg2 := hb2.lt
  have hsz1 := hx1.size
  refine (lentNams_any _ d.2.1 h1 w2 (HVI.out.below hw2)).mono ?_
  rintro e w3 ⟨u, rfl, hx3, hl3⟩
  have hw3 := Agg.belowThen hw2 (Nat.le_refl _) hx3
  obtain ⟨gu, cu, hu, hgu⟩ := hl3.form
  have hsz2 := hx2.size
  have hsz3 := hx3.size
  have hne : gu ≠ g := by omega
  obtain ⟨w4, hrun, hb4, ho4, hz4⟩ := ((hb.below hx2).below hx3).put (P := Try.prog) (ty := 22) 1 (by simp) u (by rw [hu]; rfl) (by rw [hu]; rfl) (by kernel_rfl)
  have hl4 := hl3.onlyB ho4 (fun b hb h => by have h : b = g := h; rw [hu] at hb; simp only [Value.ownBlock, Option.some.injEq] at hb; omega)
  have hr4 := (HVR.out.below hw3)
  have hb24 := ((hb2.below hx3).only ho4 (fun h => by have h : g2 = g := h; omega))
  have hw4 : Below w.heap.size w w4 := hw3.trans (ho4.below (B := w.heap.size) (by omega) (fun i hi => by have hi : i = g := hi; omega))
  have HW4 := Lib.hid hw4
  have HVR4 := Lib.hid (HVR.out.below hw4)
  have HL4 := Lib.hid hl4
  have hb4 : Blk w4 g 25 #[.string ⟨d.1.toArray⟩, u, vr] := hb4
  have HB4 := Lib.hid (DrvL.of_blk hb4)
  clear hl3 hl4 hr4 hu
  go_wp2_with (first | (with_reducible refine Agg.wpList_store rfl rfl 22 _ _ rfl (.pointer (some ⟨g, 1, none⟩)) u rfl rfl hrun ?_) | (with_reducible refine Agg.wpList_loadL HB4.out.rcp rfl _ rfl rfl ?_))
  refine (lentBytes_any _ d.2.2 h2 w4 HVR4.out).mono ?_
  rintro e w5 ⟨u2, rfl, hx5, hl5⟩
  have hw5 := Agg.belowThen HW4.out (Nat.le_refl _) hx5
  have hl35 := HL4.out.below hx5
  obtain ⟨gu2, cu2, hu2, hgu2⟩ := hl5.form
  have hsz5 := hx5.size
  obtain ⟨w6, hrun6, hb6, ho6, hz6⟩ := (hb4.below hx5).put (P := Try.prog) (ty := 23) 2 (by simp) u2 (by rw [hu2]; rfl) (by rw [hu2]; rfl) (by kernel_rfl)
  have hl6 := hl5.onlyB ho6 (fun b hb h => by have h : b = g := h; rw [hu2] at hb; simp only [Value.ownBlock, Option.some.injEq] at hb; omega)
  obtain ⟨gu, cu, hu, hgu⟩ := hl35.form
  have hl36 := hl35.onlyB ho6 (fun b hb h => by have h : b = g := h; rw [hu] at hb; simp only [Value.ownBlock, Option.some.injEq] at hb; omega)
  have hb26 := (hb24.below hx5).only ho6 (fun h => by have h : g2 = g := h; omega)
  have hw6 : Below w.heap.size w w6 := hw5.trans (ho6.below (B := w.heap.size) (by omega) (fun i hi => by have hi : i = g := hi; omega))
  have HW6 := Lib.hid hw6
  have HL6 := Lib.hid hl6
  have HL36 := Lib.hid hl36
  have hb6 : Blk w6 g 25 #[.string ⟨d.1.toArray⟩, u, u2] := hb6
  have HB6 := Lib.hid (DrvL.of_blk hb6)
  have hone : (#[.string ⟨d.1.toArray⟩, u, u2] : Array Value).all (·.oneCell') = true := by rw [hu, hu2]; kernel_rfl
  have hold : (#[.string .empty, .slice none 0 0, .slice none 0 0] : Array Value).size = (#[.string ⟨d.1.toArray⟩, u, u2] : Array Value).size := rfl
  have hinf : (Try.prog.info? 25).map (·.size) = some (#[.string ⟨d.1.toArray⟩, u, u2] : Array Value).size := by kernel_rfl
  have HU := Lib.hid hu
  have HU2 := Lib.hid hu2
  clear hl5 hl6 hl36 hl35 hw6 hw5 hu hu2
  go_wp2_with (first | (with_reducible refine Agg.wpList_store rfl rfl 23 _ _ rfl (.pointer (some ⟨g, 2, none⟩)) u2 rfl rfl hrun6 ?_) | (with_reducible refine Agg.wpList_loadL HB6.out.all rfl _ rfl rfl ?_) | (with_reducible refine Agg.wpList_put rfl rfl 25 _ _ rfl g2 (#[.string ⟨d.1.toArray⟩, u, u2]) (#[.string .empty, .slice none 0 0, .slice none 0 0]) rfl rfl hb26 hinf hold hone ?_; intro w7 hb7 hx7 hz7 hk7))
  have ho7 : Only (· = g2) w6 w7 := ⟨hx7.os, hx7.tape, hx7.output, by omega, fun k _ hk => hk7 k hk⟩
  refine Agg.post_row rfl rfl hb7 drvU rfl (by kernel_rfl) rfl ⟨_, rfl, HW6.out.trans (hx7.mono (by omega)), _, _, rfl, (HL36.out.only ho7 ?_).lower (by omega), (HL6.out.only ho7 ?_).lower (by omega)⟩
  · intro b hb h
    have h : b = g2 := h
    omega
  · intro b hb h
    have h : b = g2 := h
    omega
theorem decide_self' {α : Type} [DecidableEq α] (a : α) : decide (a = a) = true := by simp
set_option maxRecDepth 100000 in
set_option maxHeartbeats 1000000 in
theorem keptDrv_any (u v : Value) (d : Drv) (h1 : d.2.1.length ≤ 1048576) (h2 : d.2.2.length ≤ 1048576) (base : Nat) (w : World) (hu : LentD base w u d) (hv : DrvAt w v d) :
    Calls Try.prog 14 #[u, v] w fun e w' => e = .returned (.bool true) ∧ Below w.heap.size w w' := by
  have hsame : ∀ W, Below w.heap.size w W → Calls Try.prog 39 #[u, v] W fun e w' => e = .returned (.bool true) ∧ Below W.heap.size W w' := fun W hW => by
    have := sameDrv_any u v d d h1 h1 h2 h2 W (hu.drv.below hW) (hv.below hW)
    rwa [decide_self'] at this
  have HSAME := Lib.hid hsame
  clear hsame
  obtain ⟨ui, ur, rfl, hui, hur⟩ := hu
  obtain ⟨vi, vr, rfl, hvi, hvr⟩ := hv
  have hkn : ∀ W, Below w.heap.size w W → Calls Try.prog 40 #[ui, vi] W fun e w' => e = .returned (.bool true) ∧ Below W.heap.size W w' := fun W hW => keptNams_any ui vi d.2.1 h1 base W (hui.below hW) (hvi.below hW)
  have hkb : ∀ W, Below w.heap.size w W → Calls Try.prog 41 #[ur, vr] W fun e w' => e = .returned (.bool true) ∧ Below W.heap.size W w' := fun W hW => keptBytes_any ur vr d.2.2 h2 base W (hur.below hW) (hvr.below hW)
  have HKN := Lib.hid hkn
  have HKB := Lib.hid hkb
  clear hkn hkb hui hur hvi hvr
  go_enter Try.func14, Try.ntmps14
  go_wp2_with (first | (with_reducible refine Agg.wpList_box rfl 25 _ rfl (#[.string ⟨d.1.toArray⟩, ui, ur]) rfl ?_; intro g w1 hb hx1 hg) | (with_reducible refine Agg.wpList_box rfl 25 _ rfl (#[.string ⟨d.1.toArray⟩, vi, vr]) rfl ?_; intro g2 w2 hb2 hx2 hg2) | (with_reducible refine Agg.wpList_loadL ((DrvL.of_blk hb).below hx2).all rfl _ rfl rfl ?_) | (with_reducible refine Agg.wpList_loadL (DrvL.of_blk hb2).all rfl _ rfl rfl ?_))
  have hw2 := Agg.belowThen hx1 (Nat.le_refl _) hx2
  have HW2 := Lib.hid hw2
  have HB1 := Lib.hid (DrvL.of_blk (hb.below hx2))
  have HB2 := Lib.hid (DrvL.of_blk hb2)
  clear hb hb2 hx1 hx2 hg hg2 hw2
  refine (HSAME.out _ HW2.out).mono ?_
  rintro e w3 ⟨rfl, hx3⟩
  have hw3 := Agg.belowThen HW2.out (Nat.le_refl _) hx3
  have HB13 := Lib.hid (HB1.out.below hx3)
  have HB23 := Lib.hid (HB2.out.below hx3)
  go_wp2_with (first | (with_reducible refine Agg.wpList_loadL HB13.out.inp rfl _ rfl rfl ?_) | (with_reducible refine Agg.wpList_loadL HB23.out.inp rfl _ rfl rfl ?_))
  refine (HKN.out _ hw3).mono ?_
  rintro e w4 ⟨rfl, hx4⟩
  have hw4 := Agg.belowThen hw3 (Nat.le_refl _) hx4
  have HB14 := Lib.hid (HB13.out.below hx4)
  have HB24 := Lib.hid (HB23.out.below hx4)
  go_wp2_with (first | (with_reducible refine Agg.wpList_loadL HB14.out.rcp rfl _ rfl rfl ?_) | (with_reducible refine Agg.wpList_loadL HB24.out.rcp rfl _ rfl rfl ?_))
  refine (HKB.out _ hw4).mono ?_
  rintro e w5 ⟨rfl, hx5⟩
  have hw5 := Agg.belowThen hw4 (Nat.le_refl _) hx5
  go_wp2_with fail
  go_ret
  exact ⟨rfl, hw5⟩

end Go.Proofs.Ytgekpghjlhcpkaa
/-! Marks of any elements; rows while they are marked. -/
namespace Go.Agg
open Go.RowKit
section
variable {α : Type} (mk : Nat → Nat → α)
def marksG (k n : Nat) : List α := (List.range n).map (mk k)
theorem marksG_length (k n : Nat) : (marksG mk k n).length = n := by simp [marksG]
theorem marksG_succ (k n : Nat) : marksG mk k (n + 1) = marksG mk k n ++ [mk k n] := by simp [marksG, List.range_succ]
theorem marksG_get (k n i : Nat) (h : i < n) : (marksG mk k n)[i]? = some (mk k i) := by simp [marksG, h]
theorem marksG_set (k i : Nat) (l : List α) (hi : i < l.length) : (marksG mk k i ++ l.drop i).set i (mk k i) = marksG mk k (i + 1) ++ l.drop (i + 1) := by
  rw [List.set_append_right _ _ (by rw [marksG_length]; exact Nat.le_refl _), marksG_length, Nat.sub_self, List.drop_eq_getElem_cons hi, List.set_cons_zero, marksG_succ, List.append_assoc, List.singleton_append]
/-- writing: row k at i -/
def wroteG (f : Nat → List α) (k i : Nat) : Nat → List α := fun j => if j = k then marksG mk k i ++ (f k).drop i else if j < k then marksG mk j (f j).length else f j
def wroteToG (f : Nat → List α) (k : Nat) : Nat → List α := fun j => if j < k then marksG mk j (f j).length else f j
theorem wroteG_zero (f : Nat → List α) (k : Nat) : wroteG mk f k 0 = wroteToG mk f k := by
  funext j
  unfold wroteG wroteToG
  by_cases hj : j = k
  · subst hj; simp [marksG]
  · simp [hj]
theorem wroteToG_zero (f : Nat → List α) : wroteToG mk f 0 = f := by funext j; simp [wroteToG]
theorem wroteToG_at (f : Nat → List α) (n k : Nat) (h : k < n) : wroteToG mk f n k = marksG mk k (f k).length := by simp [wroteToG, h]
theorem wroteToG_same (f : Nat → List α) (n k : Nat) (h : k < n) : (fun j => if j = k then marksG mk k (f k).length else wroteToG mk f n j) = wroteToG mk f n := by
  funext j
  by_cases hj : j = k
  · subst hj; simp [wroteToG, h]
  · simp [hj]
theorem marksG_more (k n i : Nat) : marksG mk k (n + i) ++ [mk k (n + i)] = marksG mk k (n + (i + 1)) := by rw [← Nat.add_assoc, marksG_succ]
theorem wroteG_all (f : Nat → List α) (k : Nat) : wroteG mk f k (f k).length = wroteToG mk f (k + 1) := by
  funext j
  unfold wroteG wroteToG
  by_cases hj : j = k
  · subst hj; simp
  · by_cases h : j < k
    · simp [hj, h, show j < k + 1 by omega]
    · simp [hj, h, show ¬ j < k + 1 by omega]
theorem wroteG_succ (f : Nat → List α) (k i : Nat) (hi : i < (f k).length) : (fun j => if j = k then (wroteG mk f k i k).set i (mk k i) else wroteG mk f k i j) = wroteG mk f k (i + 1) := by
  funext j
  unfold wroteG
  by_cases hj : j = k
  · subst hj; simp [marksG_set mk _ _ _ hi]
  · simp [hj]
theorem wroteG_len (f : Nat → List α) (k i : Nat) (hi : i ≤ (f k).length) : (wroteG mk f k i k).length = (f k).length := by unfold wroteG; simp [marksG_length]; omega
theorem wroteToG_len (f : Nat → List α) (n j : Nat) : (wroteToG mk f n j).length = (f j).length := by unfold wroteToG; split <;> simp [marksG_length]
end
end Go.Agg
/-! Rows of paths: slices of slices of paths; markPath. -/
namespace Go.Proofs.Ytgekpghjlhcpkaa
open Go.RowKit Pl Go.Agg
/-- the mark of a place -/
def mkP (k i : Nat) : P20 := ⟨(z20, mkT k i), rfl⟩
theorem build_path1 (s : List UInt8) (w : World) : (Instr.build 47 #[(1, .string ⟨s.toArray⟩)]).run Try.prog w = .ok (.agg (pC z20 s)) w := by kernel_rfl
theorem eqM_P (k i : Nat) (W : World) : (binOp .eql 47 (.agg (pC z20 (mkT k i))) (.agg (pC z20 (mkT k i)))).run Try.prog W = .ok (.bool true) W := by
  have h := eql_path z20 (mkT k i) z20 (mkT k i) rfl rfl W
  rw [h]
  simp
end Go.Proofs.Ytgekpghjlhcpkaa
/-! Rows of what was made; markMade. -/
namespace Go.Proofs.Ytgekpghjlhcpkaa
open Go.RowKit Pl Go.Agg
theorem xlen_M {w : World} {v : Value} {l : List Md} (h : SliceOf EMd w v l) (W : World) : (Builtin.len_ #[26] 3 #[v]).run Try.prog W = .ok (.int .i64 (l.length : Int)) W := h.len W
theorem rlen_M {w : World} {v : Value} {l : List Md} (h : RoomN EMd w v l) (W : World) : (Builtin.len_ #[26] 3 #[v]).run Try.prog W = .ok (.int .i64 (l.length : Int)) W := h.slice.len W
theorem xat_M {w : World} {v : Value} {l : List Md} (h : SliceOf EMd w v l) (k : Nat) (x : Md) (hx : l[k]? = some x) :
    ∃ p : Addr, (∀ W, (Instr.indexAt 26 v (.int .i64 (k : Int))).run Try.prog W = .ok (.pointer (some p)) W) ∧ LoadsL Try.prog w 72 (some p) (EMd.val x) := by
  obtain ⟨p, h1, _, _, h4⟩ := h.at_ k x hx
  exact ⟨p, h1, h4⟩
/-- the mark of a place -/
def mkMd (k i : Nat) : Md := (⟨z20, rfl⟩, ⟨(z20, mkT k i), rfl⟩)
def mdS (s : List UInt8) : Md := (⟨z20, rfl⟩, ⟨(z20, s), rfl⟩)
theorem build_pathM (s : List UInt8) (w : World) : (Instr.build 47 #[(1, .string ⟨s.toArray⟩)]).run Try.prog w = .ok (.agg (pC z20 s)) w := by kernel_rfl
theorem build_made1 (s : List UInt8) (w : World) : (Instr.build 72 #[(1, .agg (pC z20 s))]).run Try.prog w = .ok (.agg (mC (mdS s))) w := by kernel_rfl
set_option maxRecDepth 100000 in
set_option maxHeartbeats 1000000 in
theorem markMade_any (k i : Nat) (_hk : k ≤ 16777216) (_hi : i ≤ 16777216) (w : World) : Calls Try.prog 28 #[.int .i64 (k : Int), .int .i64 (i : Int)] w fun e w' => e = .returned (.agg (mC (mdS (mkT (k) (i))))) ∧ Below w.heap.size w w' := by
  obtain ⟨s, hs⟩ : ∃ s, mkT k i = s := ⟨_, rfl⟩
  have hm := fun w => markText_any k i w
  rw [hs] at hm
  rw [hs]
  have HM := Lib.hid hm
  clear hs hm
  go_enter Try.func28, Try.ntmps28
  go_wp2_with (first | (with_reducible refine Agg.wpList_zero rfl 72 rfl (mC zM) mC_zero ?_; intro g w1 hb1 hx1 hg1))
  refine (HM.out w1).mono ?_
  rintro e w2 ⟨rfl, hw2⟩
  have hb2 := hb1.below hw2
  have hx2 := Agg.belowThen hx1 (Nat.le_refl _) hw2
  clear hb1
  go_wp2_with (first | (with_reducible refine Agg.wpList_build1 47 1 _ rfl rfl (.string ⟨s.toArray⟩) rfl (.agg (pC z20 s)) (build_pathM s) ?_) | (with_reducible refine Agg.wpList_build1 72 1 _ rfl rfl (.agg (pC z20 s)) rfl (.agg (mC (mdS s))) (build_made1 s) ?_) | (with_reducible refine Agg.wpList_put rfl rfl 72 _ _ rfl g (mC (mdS s)) (mC zM) rfl rfl hb2 (mC_info _) (by rw [mC_size, mC_size]) (mC_one _) ?_; intro w3 hb3 hx3 _ _))
  exact Agg.post_row rfl rfl hb3 mC_under rfl (mC_info _) rfl ⟨rfl, hx2.trans (hx3.mono hg1)⟩
theorem markSum_M (k a b : Nat) (hk : k ≤ 16777216) (hi : a + b ≤ 16777216) (w : World) : Calls Try.prog 28 #[.int .i64 (k : Int), .int .i64 ((a : Int) + (b : Int))] w fun e w' => e = .returned (.agg (mC (mdS (mkT (k) (a + b))))) ∧ Below w.heap.size w w' := by
  rw [show ((a : Int) + (b : Int)) = ((a + b : Nat) : Int) by simp]
  exact markMade_any k (a + b) hk hi w
theorem markSumL_M (a b i : Nat) (hk : a + b ≤ 16777216) (hi : i ≤ 16777216) (w : World) : Calls Try.prog 28 #[.int .i64 ((a : Int) + (b : Int)), .int .i64 (i : Int)] w fun e w' => e = .returned (.agg (mC (mdS (mkT (a + b) (i))))) ∧ Below w.heap.size w w' := by
  rw [show ((a : Int) + (b : Int)) = ((a + b : Nat) : Int) by simp]
  exact markMade_any (a + b) i hk hi w
theorem eqlM (x y : Md) (w : World) : (binOp .eql 72 (.agg (mC x)) (.agg (mC y))).run Try.prog w = .ok (.bool (decide (x = y))) w := by rw [run_eql_struct, eqlInM 9996]; rfl
theorem eqM_M (k i : Nat) (W : World) : (binOp .eql 72 (.agg (mC (mdS (mkT (k) (i))))) (.agg (mC (mdS (mkT (k) (i)))))).run Try.prog W = .ok (.bool true) W := by
  rw [eqlM]
  simp
end Go.Proofs.Ytgekpghjlhcpkaa
/-! spencekit.LentMades, KeptMades. -/
namespace Go.Proofs.Ytgekpghjlhcpkaa
open Go.RowKit Pl Go.Agg
theorem md_at {w : World} {v : Value} {l : List Md} (h : MdsAt w v l) (k : Nat) (x : Md) (hx : l[k]? = some x) :
    ∃ p : Addr, (∀ W, (Instr.indexAt 26 v (.int .i64 (k : Int))).run Try.prog W = .ok (.pointer (some p)) W) ∧ LoadsL Try.prog w 72 (some p) (.agg (mC x)) := by
  obtain ⟨p, h1, _, _, h4⟩ := h.at_ k x hx
  exact ⟨p, h1, h4⟩
set_option maxRecDepth 100000 in
set_option maxHeartbeats 1000000 in
theorem lentMades_any (v : Value) (b : List Md) (hb : b.length ≤ 1048576) (w : World) (he : MdsAt w v b) :
    Calls Try.prog 9 #[v] w fun e w' => ∃ u, e = .returned u ∧ Below w.heap.size w w' ∧ LentO EMd (marksG mkMd 1 12) w.heap.size w' u b := by
  have hlv := fun W => mds_len he W
  have HE := Lib.hid he
  clear he
  have hc : b.length + 12 ≤ 1099511627776 / 8 := by omega
  go_enter Try.func9, Try.ntmps9
  go_wp2_with (first | (refine Agg.wpList_make0 (base := w.heap.size) EMd rfl .i64 .i64 _ (b.length + 12) rfl rfl hc (by decide) (Nat.le_refl _) ?_; intro v1 w1 ho1 hx1) | (at_builtin; refine Agg.walk_stop ?_))
  refine ⟨?_, trivial⟩
  have h63 : ([] : List Md).length + b.length ≤ 1099511627776 / 8 := by simp; omega
  refine Agg.wpList_appendS (E := EMd) rfl _ _ rfl v rfl rfl b ho1 (SliceOf.below HE.out hx1) h63 (by decide) hx1.size ?_
  intro v2 w2 ho2 hp2 _
  rw [List.nil_append] at ho2
  have hx2 := hx1.trans (hp2.below w.heap.size (Nat.le_refl _) hx1.size)
  simp only [Act.put, List.setIfInBounds_toArray, List.set_cons_succ, List.set_cons_zero]
  clear ho1 hp2 hx1
  go_wp2_with fail
  go_loopw [3, 4] (fun out i wr => ∃ k : Nat, k ≤ 12 ∧ i = .int .i64 k ∧ Own EMd w.heap.size wr out (b ++ marksG mkMd 1 k) ∧ Below w.heap.size w wr) (fun _ i _ => 12 - (intOf i).toNat)
  case atStart => exact ⟨0, by omega, rfl, by simpa [marksG] using ho2, hx2⟩
  case round =>
    clear ho2 hx2
    obtain ⟨w3, rfl⟩ : ∃ w3 : World, w3 = wr := ⟨_, rfl⟩
    obtain ⟨k, hk, rfl, ho, hw⟩ := hrel
    have HO := Lib.hid ho
    have HW := Lib.hid hw
    clear ho hw
    by_cases hlt : k < 12
    · have h63 : (b ++ marksG mkMd 1 k).length + 1 ≤ 1099511627776 / 8 := by rw [List.length_append, marksG_length]; omega
      have hsz := HW.out.size
      go_wp2_with fail
      refine (markMade_any 1 k (by omega) (by omega) _).mono ?_
      rintro e w4 ⟨rfl, hw4⟩
      have hx4 := Agg.belowThen HW.out (Nat.le_refl _) hw4
      have HO4 := Lib.hid (HO.out.below hw4)
      have hsz4 := hx4.size
      go_wp2_with (first | (refine Agg.wpList_push (E := EMd) (base := w.heap.size) rfl rfl 19 rfl _ rfl _ rfl (mkMd 1 k) rfl (fun _ => rfl) (by simp) HO4.out h63 (by decide) hsz4 ?_; intro u5 v5 w5 ho5 hp5))
      rw [List.append_assoc, ← marksG_succ] at ho5
      go_wp2_with fail
      go_roundw
      case rel => exact ⟨k + 1, by omega, by go_num, ho5, hx4.trans (hp5.below w.heap.size (Nat.le_refl _) hsz4)⟩
      case measure => simp [intOf]; omega
    · obtain rfl : k = 12 := by omega
      have hown := HO.out
      obtain ⟨g, cap, rfl, hcap, _⟩ := Lent.of_own HO.out (by rw [marksG_length]; omega)
      have HLT := Lib.hid (show LentO EMd (marksG mkMd 1 12) w.heap.size w3 (.slice (some ⟨g, 0, none⟩) b.length cap) b from ⟨g, cap, rfl, hown⟩)
      rw [marksG_length] at hcap
      have hcap2 : b.length ≤ cap := by omega
      clear hown
      go_wp2_with fail
      go_ret
      exact ⟨_, rfl, HW.out, HLT.out⟩
theorem markMade_off (k n : Nat) (hk : n ≤ k) (hk2 : k ≤ 16777216) (w : World) : Calls Try.prog 28 #[.int .i64 1, .int .i64 ((k : Int) - (n : Int))] w fun e w' => e = .returned (.agg (mC (mdS (mkT (1) (k - n))))) ∧ Below w.heap.size w w' := by
  rw [show ((k : Int) - (n : Int)) = ((k - n : Nat) : Int) by omega]
  exact markMade_any 1 (k - n) (by omega) (by omega) w
set_option maxRecDepth 100000 in
set_option maxHeartbeats 1000000 in
theorem keptMades_any (u v : Value) (b : List Md) (hb : b.length ≤ 1048576) (base : Nat) (w : World) (hu : Lent EMd (marksG mkMd 1 12) base w u b) (hv : MdsAt w v b) :
    Calls Try.prog 15 #[u, v] w fun e w' => e = .returned (.bool true) ∧ Below w.heap.size w w' := by
  have hlv := fun W => mds_len hv W
  have HV := Lib.hid hv
  obtain ⟨g, cap, rfl, _, hcap, ha⟩ := hu
  rw [marksG_length] at hcap ha
  have HA := Lib.hid ha
  clear hv ha
  have hne : ((b.length : Int) != (b.length : Int)) = false := by simp
  go_enter Try.func15, Try.ntmps15
  go_wp2_with fail
  go_loopw [6] (fun i wr => ∃ k : Nat, k ≤ b.length + 12 ∧ i = .int .i64 k ∧ Below w.heap.size w wr) (fun i _ => b.length + 12 - (intOf i).toNat)
  case atStart => exact ⟨0, by omega, rfl, Below.refl _ _⟩
  case round =>
    obtain ⟨w1, rfl⟩ : ∃ w1 : World, w1 = wr := ⟨_, rfl⟩
    obtain ⟨k, hk, rfl, hw⟩ := hrel
    have HW := Lib.hid hw
    clear hw
    by_cases hlt : k < b.length + 12
    · by_cases hlt2 : k < b.length
      · obtain ⟨y, hyk⟩ : ∃ y, b[k]? = some y := ⟨_, List.getElem?_eq_getElem hlt2⟩
        obtain ⟨pa, hadp, hlda⟩ := md_at (SliceOf.below HA.out HW.out) k y (by rw [List.getElem?_append_left hlt2]; exact hyk)
        obtain ⟨pv, hadv, hldv⟩ := md_at (SliceOf.below HV.out HW.out) k y hyk
        have HLA := Lib.hid hlda
        have HLV := Lib.hid hldv
        have hd1 : decide ((k : Int) < (b.length : Int)) = true := by simp; omega
        have hd3 : decide (b.length ≤ k) = false := by simp; omega
        have hq : ∀ w, (binOp .eql 72 (.agg (mC y)) (.agg (mC y))).run Try.prog w = .ok (.bool true) w := fun w => by rw [eqlM]; simp
        have HQ := Lib.hid hq
        clear hyk hlda hldv hq
        go_wp2_with fail
        try simp only [Act.put, List.setIfInBounds_toArray, List.set_cons_succ, List.set_cons_zero]
        refine Agg.wp_region_later_lit (by kernel_rfl) (by kernel_rfl) ?_
        repeat (first | go_big_quiet_skip | ((first | (with_reducible refine Agg.wpQuiet_loadL HLA.out rfl _ rfl rfl ?_) | (with_reducible refine Agg.wpQuiet_loadL HLV.out rfl _ rfl rfl ?_) | (with_reducible refine Agg.wpQuiet_eql rfl 72 72 _ _ rfl (mC y) (mC y) rfl rfl (true) (by kernel_rfl) HQ.out ?_)); simp only [Act.put, List.setIfInBounds_toArray, List.set_cons_succ, List.set_cons_zero]) | go_big_quiet_step (fail))
        refine wpQuiet_nil ?_
        intro _ hw'
        obtain ⟨x1, rfl⟩ := hw'
        go_wp2_with fail
        go_roundw
        case rel => exact ⟨k + 1, by omega, by go_num, Agg.belowThen HW.out (Nat.le_refl _) x1.h⟩
        case measure => simp [intOf]; omega
      · obtain ⟨y, hy⟩ : ∃ y, y = mkMd 1 (k - b.length) := ⟨_, rfl⟩
        have hmn := fun w => markMade_off k b.length (by omega) (by omega) w
        obtain ⟨pa, hadp, hlda⟩ := md_at (SliceOf.below HA.out HW.out) k (mkMd 1 (k - b.length)) (by rw [List.getElem?_append_right (by omega)]; exact marksG_get _ _ _ _ (by omega))
        have hmn2 : ∀ w, Calls Try.prog 28 #[.int .i64 1, .int .i64 ((k : Int) - (b.length : Int))] w fun e w' => e = .returned (.agg (mC y)) ∧ Below w.heap.size w w' := by rw [hy]; exact hmn
        rw [← hy] at hlda
        have HMN := Lib.hid hmn2
        have HLA := Lib.hid hlda
        have hd1 : decide ((k : Int) < (b.length : Int)) = false := by simp; omega
        have hd3 : decide (b.length ≤ k) = true := by simp; omega
        have hq : ∀ w, (binOp .eql 72 (.agg (mC y)) (.agg (mC y))).run Try.prog w = .ok (.bool true) w := fun w => by rw [eqlM]; simp
        have HQ := Lib.hid hq
        clear hlda hy hq hmn hmn2
        go_wp2_with fail
        try simp only [Act.put, List.setIfInBounds_toArray, List.set_cons_succ, List.set_cons_zero]
        refine Agg.wp_region_later_lit (by kernel_rfl) (by kernel_rfl) ?_
        repeat (first | go_big_quiet_skip | ((first | (with_reducible refine Agg.wpQuiet_loadL HLA.out rfl _ rfl rfl ?_) | (with_reducible refine Agg.wpQuiet_eql rfl 72 72 _ _ rfl (mC y) (mC y) rfl rfl (true) (by kernel_rfl) HQ.out ?_)); simp only [Act.put, List.setIfInBounds_toArray, List.set_cons_succ, List.set_cons_zero]) | go_big_quiet_step ((go_at_call 28; exact Agg.Calls.later (HMN.out _))))
        refine wpQuiet_nil ?_
        intro _ hw'
        obtain ⟨x1, rfl⟩ := hw'
        go_wp2_with fail
        go_roundw
        case rel => exact ⟨k + 1, by omega, by go_num, Agg.belowThen HW.out (Nat.le_refl _) x1.h⟩
        case measure => simp [intOf]; omega
    · obtain rfl : k = b.length + 12 := by omega
      go_wp2_with fail
      go_ret
      exact ⟨rfl, HW.out⟩
end Go.Proofs.Ytgekpghjlhcpkaa
