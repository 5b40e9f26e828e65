/- slices.Insert at any place; slices.BinarySearchFunc among builts, by places. (Several texts in one.) -/
import Derived.Test.YtniibcgomnjfgaaQAJ
import Derived.Test.YtniibcgomnjfgaaQAG
import Derived.Test.YtniibcgomnjfgaaQAF
/-! slices.Insert of one built into builts of the call's own. -/
namespace Go.Proofs.Ytniibcgomnjfgaa
open Go.RowKit Pl Go.Agg
theorem shape_row {w : World} {g : Nat} {cs : Array Value} {t : TypeId} (h : w.heap[g]? = some (.cells cs t (0, 0))) : w.shape? g = some (t, cs.size) := by simp [World.shape?, h]
theorem overl_apart {w : World} {gv g : Nat} {x : BuV} {cs : Array Value} (hne : gv ≠ g) (hv : Blk w gv 35 (bC x)) (hg : w.heap[g]? = some (.cells cs 35 (0, 0))) (hcs : cs.size ≠ 0) (off lb cb : Nat) :
    (callFunc 51 #[.slice (some ⟨gv, 0, none⟩) 1 1, .slice (some ⟨g, off, none⟩) lb cb]).run Try.prog w = .ok (.value (.bool false)) w := by
  rw [run_callFunc_extern Try.func51 (by kernel_rfl) (by kernel_rfl) (by kernel_rfl) (e := Extern.SlicesOverlaps.overlaps #[22, 22] #[4]) (by kernel_rfl),
    Lib.run_overlaps_apart w 22 4 35 EBu.slice 63 (fun w => run_sizeOf_elem (E := EBu) w) ⟨gv, 0, none⟩ ⟨g, off, none⟩ 1 1 lb cb hne 35 35 (bC x).size cs.size (shape_row hv) (shape_row hg) hcs (frozen_of_row _ _ _ _ _ hv) (frozen_of_row _ _ _ _ _ hv)]
  rfl
def zV : BuV := (zB, none, 0, 0)
theorem own_row {base : Nat} {w : World} {g c n : Nat} {l : List BuV} (h : Own EBu base w (.slice (some ⟨g, 0, none⟩) n c) l) : ∃ cur, w.heap[g]? = some (.cells cur 35 (0, 0)) ∧ cur.size = c * 63 ∧ n ≤ c ∧ c ≤ maxLen ∧ base ≤ g := by
  obtain ⟨_, ⟨h0, _⟩ | ⟨g', cap, cur, hv, hgb, hcur, hle, hmx, hsz, _⟩⟩ := h
  · cases h0
  · obtain ⟨rfl, rfl, rfl⟩ : g = g' ∧ n = l.length ∧ c = cap := by injection hv with e1 e2 e3; injection e1 with e1; injection e1 with e1; exact ⟨e1, e2, e3⟩
    exact ⟨cur, hcur, hsz, hle, hmx, hgb⟩
theorem only_setRow {w : World} {g : Nat} {cs : Array Value} : Only (· = g) w (w.setRow g cs) := ⟨rfl, rfl, rfl, by simp, fun k _ hk => setRow_other w g k cs hk⟩
set_option maxRecDepth 100000 in
set_option maxHeartbeats 4000000 in
/-- at the end -/
theorem insert_end (v : Value) (l : List BuV) (hl : l.length ≤ 1048576) (base : Nat) (gv : Nat) (x : BuV) (w : World) (hown : Own EBu base w v l) (hv : Blk w gv 35 (bC x)) (hbase : base ≤ w.heap.size) :
    Calls Try.prog 38 #[v, .int .i64 (l.length : Int), .slice (some ⟨gv, 0, none⟩) 1 1] w fun e w' => ∃ v', e = .returned v' ∧ Own EBu base w' v' (l ++ [x]) ∧ Pushed EBu base w w' v := by
  have HO := Lib.hid hown
  have HVV := Lib.hid (slice_of_block (E := EBu) (a := x) hv)
  have hlv := fun W => hown.slice.len W
  obtain ⟨p, c, rfl⟩ := hown.slice.form
  have hlo := EBu.runLow (P := Try.prog) p l.length c l.length (Nat.le_refl _)
  have hee : ((l.length : Int) == (l.length : Int)) = true := by simp
  clear hown hv
  go_enter Try.func38, Try.ntmps38
  go_wp2_with (first | (refine Agg.wpList_appendO (E := EBu) (base := base) rfl _ _ rfl (.slice (some ⟨gv, 0, none⟩) 1 1) rfl rfl [x] HO.out HVV.out (by simp; omega) (by decide) hbase ?_; intro v2 w2 ho2 hp2 _; have HO2 := Lib.hid ho2; have HP2 := Lib.hid (show Pushed EBu base w w2 (.slice p l.length c) from hp2); clear ho2 hp2))
  all_goals go_ret
  all_goals first | exact ⟨_, rfl, HO2.out, HP2.out⟩ | (rename_i h; have hp := HP2.out; rw [h] at hp; exact ⟨_, rfl, HO2.out, hp⟩)
theorem ins_eq (l : List BuV) (k : Nat) (x : BuV) (hk : k < l.length) : (l.take (k + 1) ++ l.drop k).take k ++ [x] ++ (l.take (k + 1) ++ l.drop k).drop (k + 1) = l.take k ++ x :: l.drop k := by
  rw [List.take_append_of_le_length (by simp; omega), List.take_take, Nat.min_eq_left (by omega), List.drop_left' (by simp; omega)]
  simp
theorem grow_eq (l : List BuV) (k : Nat) (x : BuV) (hk : k < l.length) : (((l.take k ++ List.replicate (l.length + 1 - k) zV).take k ++ [x] ++ (l.take k ++ List.replicate (l.length + 1 - k) zV).drop (k + [x].length)).take (k + 1) ++ l.drop k ++ ((l.take k ++ List.replicate (l.length + 1 - k) zV).take k ++ [x] ++ (l.take k ++ List.replicate (l.length + 1 - k) zV).drop (k + [x].length)).drop (k + 1 + (l.drop k).length)) = l.take k ++ x :: l.drop k := by
  have h1 : (l.take k).length = k := by simp; omega
  have h2 : (l.take k ++ List.replicate (l.length + 1 - k) zV).take k = l.take k := List.take_left' h1
  have h3 : (l.take k ++ [x]).length = k + 1 := by simp; omega
  have hR : ((l.take k ++ List.replicate (l.length + 1 - k) zV).drop (k + [x].length)).length = l.length - k := by simp; omega
  rw [h2]
  generalize (l.take k ++ List.replicate (l.length + 1 - k) zV).drop (k + [x].length) = R at *
  have h5 : (l.take k ++ [x] ++ R).drop (k + 1 + (l.drop k).length) = [] := List.drop_eq_nil_of_le (by rw [List.length_append, h3, hR, List.length_drop]; exact Nat.le_refl _)
  rw [h5, List.take_left' h3]
  simp
theorem sl_low {g n c k : Nat} {i : Int} (hi : i = (k : Int)) (hk : k ≤ n) (hc : k < c) (W : World) : (Instr.sliceAt 22 (.slice (some ⟨g, 0, none⟩) n c) (some (.int .i64 i)) none none).run Try.prog W = .ok (.slice (some ⟨g, k * 63, none⟩) (n - k) (c - k)) W := by
  subst hi; exact EBu.runCut g n c k hk hc W
theorem sl_high {g n c k : Nat} {i : Int} (hi : i = (k : Int)) (hk : k ≤ c) (W : World) : (Instr.sliceAt 22 (.slice (some ⟨g, 0, none⟩) n c) none (some (.int .i64 i)) none).run Try.prog W = .ok (.slice (some ⟨g, 0, none⟩) k c) W := by
  subst hi; exact EBu.runHigh _ n c k hk W
set_option maxRecDepth 100000 in
set_option maxHeartbeats 4000000 in
/-- in the midst, where there is room -/
theorem insert_room (l : List BuV) (hl : l.length ≤ 1048576) (base g c gv k : Nat) (x : BuV) (w : World) (hown : Own EBu base w (.slice (some ⟨g, 0, none⟩) l.length c) l) (hv : Blk w gv 35 (bC x)) (hne : gv ≠ g) (hk : k < l.length) (hroom : l.length + 1 ≤ c) :
    Calls Try.prog 38 #[.slice (some ⟨g, 0, none⟩) l.length c, .int .i64 (k : Int), .slice (some ⟨gv, 0, none⟩) 1 1] w fun e w' => ∃ v', e = .returned v' ∧ Own EBu base w' v' (l.take k ++ x :: l.drop k) ∧ Pushed EBu base w w' (.slice (some ⟨g, 0, none⟩) l.length c) := by
  have HO := Lib.hid hown
  have HV := Lib.hid hv
  have hlv := fun W => hown.slice.len W
  obtain ⟨cur, hcur, hsz, hle, hmx, hgb⟩ := own_row hown
  have hmx' : c ≤ 9223372036854775807 := by unfold maxLen at hmx; omega
  have hov := fun lb cb => overl_apart hne hv hcur (by omega) ((k + 1) * 63) lb cb
  have hs1 := sl_low (g := g) (n := l.length) (c := c) (k := k) rfl (by omega) (by omega)
  have hs13 := sl_high (g := g) (n := l.length) (c := c) (k := l.length + 1) (i := (l.length : Int) + 1) (by omega) (by omega)
  have hs14 := sl_low (g := g) (n := l.length + 1) (c := c) (k := k + 1) (i := (k : Int) + 1) (by omega) (by omega) (by omega)
  have hs15 := sl_low (g := g) (n := l.length + 1) (c := c) (k := k) rfl (by omega) (by omega)
  rw [Nat.add_sub_add_right] at hs14
  have hee : ((k : Int) == (l.length : Int)) = false := by simp; omega
  have hcc : decide ((c : Int) < (l.length : Int) + 1) = false := by simp; omega
  have hne1 : ¬ ((k : Int) = (l.length : Int)) := by omega
  have HCUR := Lib.hid hcur
  clear hown hv hcur hmx
  go_enter Try.func38, Try.ntmps38
  go_wp2_with (simp only [hov])
  try simp only [List.append_eq, List.cons_append, List.nil_append]
  try simp only [Act.put, List.setIfInBounds_toArray, List.set_cons_succ, List.set_cons_zero]
  refine Agg.wp_region_row 8 (fun w' => ∃ x : Later w, w' = x.w) (by kernel_rfl) (by kernel_rfl) ⟨⟨_, (Below.refl _ _).drew⟩, rfl⟩ ?_
  simp only [List.take_succ_cons, List.take_zero, List.drop_succ_cons, List.drop_zero]
  repeat (first | go_big_quiet_skip | go_big_quiet_step (fail))
  refine wpQuiet_nil ?_
  intro _ hw'
  obtain ⟨x1, rfl⟩ := hw'
  obtain ⟨cur1, hr1, ho1⟩ := run_copy_up (E := EBu) (HO.out.below x1.h) hroom k (l.length - k) (c - (k + 1)) (l.length + 1 - k) (c - k) hk rfl rfl 3
  have hv1 : Blk x1.w gv 35 (bC x) := HV.out.below x1.h
  have hn1 : Only (· = g) w (x1.w.setRow g cur1) := (Only.of_below x1.h).trans only_setRow (fun _ _ h => h)
  have hv2 : Blk (x1.w.setRow g cur1) gv 35 (bC x) := hv1.onlyB only_setRow hne
  have HR1 := Lib.hid (show (Builtin.copy_ #[22, 22] 3 #[.slice (some ⟨g, (k + 1) * 63, none⟩) (l.length - k) (c - (k + 1)), .slice (some ⟨g, k * 63, none⟩) (l.length + 1 - k) (c - k)]).run Try.prog x1.w = .ok (goInt ((l.length - k : Nat) : Nat)) (x1.w.setRow g cur1) from hr1)
  generalize x1.w.setRow g cur1 = w2 at *
  obtain ⟨cur2, hr2, ho2⟩ := run_copy_put (E := EBu) (m := [x]) ho1 (slice_of_block (E := EBu) (a := x) hv2) (by simp) k (l.length + 1 - k) (c - k) (by simp; omega) (by simp; omega) 3
  have hn2 : Only (· = g) w (w2.setRow g cur2) := hn1.trans only_setRow (fun _ _ h => h)
  have HR2 := Lib.hid (show (Builtin.copy_ #[22, 22] 3 #[.slice (some ⟨g, k * 63, none⟩) (l.length + 1 - k) (c - k), .slice (some ⟨gv, 0, none⟩) 1 1]).run Try.prog w2 = .ok (goInt (1 : Nat)) (w2.setRow g cur2) from hr2)
  generalize w2.setRow g cur2 = w3 at *
  have e3 : (l.take (k + 1) ++ l.drop k).take k ++ [x] ++ (l.take (k + 1) ++ l.drop k).drop (k + [x].length) = l.take k ++ x :: l.drop k := ins_eq l k x hk
  rw [e3] at ho2
  have HO3 := Lib.hid ho2
  have HN3 := Lib.hid (show Pushed EBu base w w3 (.slice (some ⟨g, 0, none⟩) l.length c) from Pushed.of_only HO.out (hn2.mono fun i _ h => by subst h; rfl))
  clear hr1 hr2 ho1 ho2 hn1 hn2 hv1 hv2
  go_wp2_with (first | (refine wpList_copyR rfl _ _ 22 22 rfl _ _ rfl rfl HR1.out ?_) | (refine wpList_copyR rfl _ _ 22 22 rfl _ _ rfl rfl HR2.out ?_))
  go_ret
  exact ⟨_, rfl, HO3.out, HN3.out⟩
theorem Own.pre {base : Nat} {w : World} {g c n : Nat} {l : List BuV} (h : Own EBu base w (.slice (some ⟨g, 0, none⟩) n c) l) (k : Nat) (hk : k ≤ l.length) : Own EBu base w (.slice (some ⟨g, 0, none⟩) (l.take k).length c) (l.take k) := by
  obtain ⟨_, ⟨h0, _⟩ | ⟨g', cap, cur, hv, hgb, hcur, hle, hmx, hsz, htk⟩⟩ := h
  · cases h0
  · obtain ⟨rfl, rfl, rfl⟩ : g = g' ∧ n = l.length ∧ c = cap := by injection hv with e1 e2 e3; injection e1 with e1; injection e1 with e1; exact ⟨e1, e2, e3⟩
    refine ⟨EBu.flat_length _, .inr ⟨g, c, cur, rfl, hgb, hcur, by simp; omega, hmx, hsz, ?_⟩⟩
    rw [List.length_take, Nat.min_eq_left hk, ← EBu.flat_take l k hk, ← htk, List.take_take, Nat.min_eq_left (Nat.mul_le_mul_right _ hk)]
theorem dropped {base : Nat} {w : World} {g c n : Nat} {l : List BuV} (h : Own EBu base w (.slice (some ⟨g, 0, none⟩) n c) l) (k : Nat) (hk : k ≤ l.length) : SliceOf EBu w (.slice (some ⟨g, k * 63, none⟩) (l.length - k) (c - k)) (l.drop k) := by
  obtain ⟨_, ⟨h0, _⟩ | ⟨g', cap, cur, hv, hgb, hcur, hle, hmx, hsz, htk⟩⟩ := h
  · cases h0
  · obtain ⟨rfl, rfl, rfl⟩ : g = g' ∧ n = l.length ∧ c = cap := by injection hv with e1 e2 e3; injection e1 with e1; injection e1 with e1; exact ⟨e1, e2, e3⟩
    refine .inr ⟨_, c - k, by rw [List.length_drop], heap_lt hcur, fun j u hj => ?_⟩
    rw [add_plain, cell_of_row _ _ _ _ _ _ hcur]
    rw [← EBu.flat_drop l k hk, ← htk, List.getElem?_drop, List.getElem?_take] at hj
    split at hj
    · simpa [show EBu.n = 63 from rfl] using hj
    · cases hj
set_option maxRecDepth 100000 in
set_option maxHeartbeats 4000000 in
/-- in the midst, where there is none -/
theorem insert_grow (l : List BuV) (hl : l.length ≤ 1048576) (base g c gv k : Nat) (x : BuV) (w : World) (hown : Own EBu base w (.slice (some ⟨g, 0, none⟩) l.length c) l) (hv : Blk w gv 35 (bC x)) (hbase : base ≤ w.heap.size) (hk : k < l.length) (hroom : c < l.length + 1) :
    Calls Try.prog 38 #[.slice (some ⟨g, 0, none⟩) l.length c, .int .i64 (k : Int), .slice (some ⟨gv, 0, none⟩) 1 1] w fun e w' => ∃ v', e = .returned v' ∧ Own EBu base w' v' (l.take k ++ x :: l.drop k) ∧ Pushed EBu base w w' (.slice (some ⟨g, 0, none⟩) l.length c) := by
  have HO := Lib.hid hown
  have HV := Lib.hid hv
  have hlv := fun W => hown.slice.len W
  obtain ⟨cur, hcur, hsz, hle, hmx, hgb⟩ := own_row hown
  have hpl : (l.take k).length = k := by simp; omega
  have hs1 := sl_low (g := g) (n := l.length) (c := c) (k := k) rfl (by omega) (by omega)
  have hs9 := sl_high (g := g) (n := l.length) (c := c) (k := k) rfl (by omega)
  have hee : ((k : Int) == (l.length : Int)) = false := by simp; omega
  have hcc : decide ((c : Int) < (l.length : Int) + 1) = true := by simp; omega
  obtain ⟨cap, w1, hr1, ho1, hx1, hz1⟩ := run_append_zerosE (E := EBu) zV rfl (Own.pre hown k (by omega)) 3 Try.underlying3 (l.length + 1 - k) (by omega) (by rw [hpl]; omega) (by rw [hpl]; omega) (by decide) hbase 22
  rw [hpl, show k + (l.length + 1 - k) = l.length + 1 by omega] at hr1 ho1
  have hcap : l.length + 1 ≤ cap := (own_row ho1).choose_spec.2.2.1
  have HR1 := Lib.hid (show (Builtin.append_ #[22, 3] 22 #[.slice (some ⟨g, 0, none⟩) k c, .int .i64 ((l.length : Int) + 1 - (k : Int))]).run Try.prog w = .ok (.slice (some ⟨w.heap.size, 0, none⟩) (l.length + 1) cap) w1 by rw [show ((l.length : Int) + 1 - (k : Int)) = ((l.length + 1 - k : Nat) : Int) by omega]; exact hr1)
  have hs10 := sl_low (g := w.heap.size) (n := l.length + 1) (c := cap) (k := k) rfl (by omega) (by omega)
  have hs11 := sl_low (g := w.heap.size) (n := l.length + 1) (c := cap) (k := k + 1) (i := (k : Int) + 1) (by omega) (by omega) (by omega)
  rw [Nat.add_sub_add_right] at hs11
  have hv1 : Blk w1 gv 35 (bC x) := hv.below hx1
  obtain ⟨cur2, hr2, ho2⟩ := run_copy_put (E := EBu) (m := [x]) ho1 (slice_of_block (E := EBu) (a := x) hv1) (by simp) k (l.length + 1 - k) (cap - k) (by simp; omega) (by simp; omega) 3
  have hx2 : Below w.heap.size w (w1.setRow w.heap.size cur2) := below_setRow hx1 (Nat.le_refl _)
  have HR2 := Lib.hid (show (Builtin.copy_ #[22, 22] 3 #[.slice (some ⟨w.heap.size, k * 63, none⟩) (l.length + 1 - k) (cap - k), .slice (some ⟨gv, 0, none⟩) 1 1]).run Try.prog w1 = .ok (goInt (1 : Nat)) (w1.setRow w.heap.size cur2) from hr2)
  generalize w1.setRow w.heap.size cur2 = w2 at *
  have HO2 := Lib.hid ho2
  have HX2 := Lib.hid hx2
  clear hown hv hcur hmx hr1 ho1 hr2 ho2 hx2 hv1
  go_enter Try.func38, Try.ntmps38
  have hr2 := HR2.out
  go_wp2_with (at_builtin; refine wpList_appendR rfl _ _ 22 3 rfl _ _ rfl rfl HR1.out ?_)
  clear hr2
  try simp only [List.append_eq, List.cons_append, List.nil_append]
  try simp only [Act.put, List.setIfInBounds_toArray, List.set_cons_succ, List.set_cons_zero]
  refine Agg.wp_region_row 8 (fun w' => ∃ x : Later w2, w' = x.w) (by kernel_rfl) (by kernel_rfl) ⟨⟨_, (Below.refl _ _).drew⟩, rfl⟩ ?_
  simp only [List.take_succ_cons, List.take_zero, List.drop_succ_cons, List.drop_zero]
  repeat (first | go_big_quiet_skip | go_big_quiet_step (fail))
  refine wpQuiet_nil ?_
  intro _ hw'
  obtain ⟨x3, rfl⟩ := hw'
  have hdl : (l.drop k).length = l.length - k := List.length_drop
  obtain ⟨cur4, hr4, ho4⟩ := run_copy_put (E := EBu) (m := l.drop k) (HO2.out.below x3.h) (dropped (HO.out.below (Agg.belowThen HX2.out (Nat.le_refl _) x3.h)) k (by omega)) (by intro e; rw [e] at hdl; simp at hdl; omega) (k + 1) (l.length - k) (cap - (k + 1)) (by simp; omega) (by rw [hdl]; exact Nat.le_refl _) 3
  rw [hdl] at hr4
  have HR4 := Lib.hid (show (Builtin.copy_ #[22, 22] 3 #[.slice (some ⟨w.heap.size, (k + 1) * 63, none⟩) (l.length - k) (cap - (k + 1)), .slice (some ⟨g, k * 63, none⟩) (l.length - k) (c - k)]).run Try.prog x3.w = .ok (goInt ((l.length - k : Nat) : Nat)) (x3.w.setRow w.heap.size cur4) from hr4)
  have HX4 := Lib.hid (show Below w.heap.size w (x3.w.setRow w.heap.size cur4) from below_setRow (Agg.belowThen HX2.out (Nat.le_refl _) x3.h) (Nat.le_refl _))
  rw [grow_eq l k x hk] at ho4
  have HO4 := Lib.hid ho4
  clear hr4 ho4
  go_wp2_with (first | (refine wpList_copyR rfl _ _ 22 22 rfl _ _ rfl rfl HR4.out ?_))
  go_ret
  exact ⟨_, rfl, HO4.out, Pushed.of_only HO.out (Only.of_below HX4.out)⟩
end Go.Proofs.Ytniibcgomnjfgaa
/-! slices.Insert at any place; slices.BinarySearchFunc among builts, by places. -/
namespace Go.Proofs.Ytniibcgomnjfgaa
open Go.RowKit Pl Go.Agg
theorem insert_any (v : Value) (l : List BuV) (hl : l.length ≤ 1048576) (base gv k : Nat) (x : BuV) (w : World) (hown : OwnBus base w v l) (hx : Own EMd base w (ivV x.2) x.1.ins) (hv : Blk w gv 35 (bC x)) (hne : v.ownBlock ≠ some gv) (hbase : base ≤ w.heap.size) (hk : k ≤ l.length) :
    Calls Try.prog 38 #[v, .int .i64 (k : Int), .slice (some ⟨gv, 0, none⟩) 1 1] w fun e w' => ∃ v' l', e = .returned v' ∧ l' = l.take k ++ x :: l.drop k ∧ OwnBus base w' v' l' ∧ Below base w w' := by
  have fin : ∀ (v' : Value) (w' : World), Own EBu base w' v' (l.take k ++ x :: l.drop k) → Pushed EBu base w w' v → OwnBus base w' v' (l.take k ++ x :: l.drop k) ∧ Below base w w' := fun v' w' ho hp =>
    ⟨⟨ho, fun y hy => by
      rcases Gr.mem_insert.1 hy with rfl | hy
      · exact hx.pushedT hp (by decide)
      · exact (hown.ins y hy).pushedT hp (by decide)⟩, hp.below base (Nat.le_refl _) hbase⟩
  by_cases hke : k = l.length
  · subst hke
    refine (insert_end v l hl base gv x w hown.row hv hbase).mono ?_
    rintro e w' ⟨v', rfl, ho, hp⟩
    have := fin v' w' (by rw [List.take_length, List.drop_length]; exact ho) hp
    exact ⟨v', _, rfl, rfl, this.1, this.2⟩
  · obtain ⟨_, ⟨rfl, h0⟩ | ⟨g, c, cur, rfl, hgb, hcur, hle, hmx, hsz, htk⟩⟩ := hown.row
    · exact absurd (show k = l.length by omega) hke
    · have hne' : gv ≠ g := fun e => hne (by rw [e]; rfl)
      by_cases hr : l.length + 1 ≤ c
      · refine (insert_room l hl base g c gv k x w hown.row hv hne' (by omega) hr).mono ?_
        rintro e w' ⟨v', rfl, ho, hp⟩
        have := fin v' w' ho hp
        exact ⟨v', _, rfl, rfl, this.1, this.2⟩
      · refine (insert_grow l hl base g c gv k x w hown.row hv hbase (by omega) (by omega)).mono ?_
        rintro e w' ⟨v', rfl, ho, hp⟩
        have := fin v' w' ho hp
        exact ⟨v', _, rfl, rfl, this.1, this.2⟩
set_option maxRecDepth 100000 in
set_option maxHeartbeats 4000000 in
theorem addCmp_any (x : BuV) (p : Pla) (w : World) :
    Calls Try.prog 36 #[.agg (bC x), .agg (plC p)] w fun e w' => e = .returned (.int .i64 (cmpPl (plOf x.1) p)) ∧ Below w.heap.size w w' := by
  go_enter Try.func36, Try.ntmps36
  go_wp2_with (first | (with_reducible refine wpList_box rfl 35 _ rfl (bC x) rfl ?_; intro g1 w1 hb1 hx1 hg1; have HL1 := Lib.hid (BuG.of_blk hb1); have HX1 := Lib.hid hx1; clear hb1 hx1 hg1) | (with_reducible refine wpList_box rfl 59 _ rfl (plC p) rfl ?_; intro g2 w2 hb2 hx2 hg2; have HP2 := Lib.hid (PlG.of_blk hb2); have HL2 := Lib.hid (HL1.out.below hx2); have HX2 := Lib.hid (Agg.belowThen HX1.out (Nat.le_refl _) hx2); clear hb2 hx2 hg2))
  have HOF := Lib.hid (fun z : Later w2 => of_any x z.w)
  have HAG := Lib.hid (fun z : Later w2 => against_any (plOf x.1) p z.w)
  try simp only [Act.put, List.setIfInBounds_toArray, List.set_cons_succ, List.set_cons_zero]
  refine Agg.wp_region_later_lit (by kernel_rfl) (by kernel_rfl) ?_
  repeat (first | go_big_quiet_skip | ((first | (with_reducible refine Agg.wpQuiet_loadL HL2.out.all rfl _ rfl rfl ?_) | (with_reducible refine Agg.wpQuiet_loadL HP2.out.all rfl _ rfl rfl ?_)); simp only [Act.put, List.setIfInBounds_toArray, List.set_cons_succ, List.set_cons_zero]) | go_big_quiet_step ((first | (go_at_call 22; exact Agg.Calls.later (HOF.out _)) | (go_at_call 23; exact Agg.Calls.later (HAG.out _)))))
  refine wpQuiet_nil ?_
  intro _ hw'
  obtain ⟨x4, rfl⟩ := hw'
  go_wp2_with fail
  go_ret
  exact ⟨rfl, Agg.belowThen HX2.out (Nat.le_refl _) x4.h⟩
/-- what a search keeps -/
structure Srch (l : List BuV) (p : Pla) (i j : Nat) : Prop where
  le : i ≤ j
  top : j ≤ l.length
  low : ∀ (t : Nat) x, t < i → l[t]? = some x → ltPl (plOf x.1) p = true
  high : ∀ (t : Nat) x, j ≤ t → l[t]? = some x → ltPl (plOf x.1) p = false
theorem Srch.start (l : List BuV) (p : Pla) : Srch l p 0 l.length := ⟨by omega, Nat.le_refl _, fun t _ h => absurd h (by omega), fun t x h hx => by have := (List.getElem?_eq_some_iff.1 hx).1; omega⟩
theorem up_lt {l : List BuV} (hU : Gr.Up (fun x : BuV => plOf x.1) ltPl l) {s t : Nat} {x y : BuV} (hst : s < t) (hx : l[s]? = some x) (hy : l[t]? = some y) : ltPl (plOf x.1) (plOf y.1) = true := by
  obtain ⟨hs, rfl⟩ := List.getElem?_eq_some_iff.1 hx
  obtain ⟨ht, rfl⟩ := List.getElem?_eq_some_iff.1 hy
  exact List.pairwise_iff_getElem.1 hU s t hs ht hst
theorem Srch.up {l : List BuV} {p : Pla} {i j h : Nat} (hU : Gr.Up (fun x : BuV => plOf x.1) ltPl l) (hs : Srch l p i j) {x : BuV} (hh : h < j) (hx : l[h]? = some x) (hlt : ltPl (plOf x.1) p = true) : Srch l p (h + 1) j :=
  ⟨by omega, hs.top, fun t y ht hy => by
    by_cases e : t = h
    · subst e; rw [hx] at hy; obtain rfl := Option.some.inj hy; exact hlt
    · exact ltPl_trans _ _ _ (up_lt hU (by omega) hy hx) hlt, hs.high⟩
theorem Srch.down {l : List BuV} {p : Pla} {i j h : Nat} (hU : Gr.Up (fun x : BuV => plOf x.1) ltPl l) (hs : Srch l p i j) {x : BuV} (hi : i ≤ h) (hh : h < j) (hx : l[h]? = some x) (hlt : ltPl (plOf x.1) p = false) : Srch l p i h :=
  ⟨hi, by have := hs.top; omega, hs.low, fun t y ht hy => by
    by_cases e : t = h
    · subst e; rw [hx] at hy; obtain rfl := Option.some.inj hy; exact hlt
    · cases hq : ltPl (plOf y.1) p with
      | false => rfl
      | true => have := ltPl_trans _ _ _ (up_lt hU (by omega) hx hy) hq; rw [hlt] at this; cases this⟩
set_option maxRecDepth 100000 in
set_option maxHeartbeats 8000000 in
theorem search_any (v : Value) (l : List BuV) (hl : l.length ≤ 1048576) (hU : Gr.Up (fun x : BuV => plOf x.1) ltPl l) (p : Pla) (w : World) (hs : BusAt w v l) :
    Calls Try.prog 35 #[v, .agg (plC p), .func (.func 36) #[] #[]] w fun e w' => ∃ (k : Nat) (b : Bool), e = .returned (.tuple #[.int .i64 (k : Int), .bool b]) ∧ Srch l p k k ∧ (b = true ↔ ∃ x, l[k]? = some x ∧ plOf x.1 = p) ∧ Below w.heap.size w w' := by
  have HS := Lib.hid hs
  have HU := Lib.hid hU
  have hlv := fun W => bus_len hs W
  clear hs hU
  go_enter Try.func35, Try.ntmps35
  go_wp2_with (first | (with_reducible refine wpList_box rfl 59 _ rfl (plC p) rfl ?_; intro g1 w1 hb1 hx1 hg1; have HP1 := Lib.hid (PlG.of_blk hb1); have HX1 := Lib.hid hx1; clear hb1 hx1 hg1))
  go_loopw [9, 10] (fun i j wr => ∃ a b : Nat, i = .int .i64 (a : Int) ∧ j = .int .i64 (b : Int) ∧ Srch l p a b ∧ Below w1.heap.size w1 wr) (fun i j _ => (intOf j).toNat - (intOf i).toNat)
  case atStart => exact ⟨0, l.length, rfl, rfl, Srch.start l p, Below.refl _ _⟩
  case round =>
    obtain ⟨wr1, rfl⟩ : ∃ y : World, y = wr := ⟨_, rfl⟩
    obtain ⟨a, b, rfl, rfl, hsr, hw⟩ := hrel
    have hab := hsr.le
    have hbn := hsr.top
    have HR := Lib.hid hsr
    have HW := Lib.hid hw
    have HWW := Lib.hid (Agg.belowThen HX1.out (Nat.le_refl _) hw)
    have HP := Lib.hid (HP1.out.below hw)
    have HSW := Lib.hid (HS.out.below HWW.out)
    clear hsr hw
    by_cases hlt : a < b
    · have hd : decide ((a : Int) < (b : Int)) = true := by simp; omega
      obtain ⟨x, hxk⟩ : ∃ x, l[(a + b) / 2]? = some x := ⟨_, List.getElem?_eq_getElem (by omega)⟩
      obtain ⟨q, hadr, hq, hin⟩ := HSW.out.at_ _ x hxk
      have HQ := Lib.hid hq
      have HX := Lib.hid hxk
      clear hq hxk hin
      go_wp2_with fail
      simp only [show ((a : Int) + (b : Int)) / 2 = (((a + b) / 2 : Nat) : Int) by omega]
      have hha : a ≤ (a + b) / 2 := by omega
      have hhb : (a + b) / 2 < b := by omega
      generalize (a + b) / 2 = h at *
      obtain ⟨c, hc⟩ : ∃ c, cmpPl (plOf x.1) p = c := ⟨_, rfl⟩
      have HC := Lib.hid (fun z : Later wr1 => (show Calls Try.prog 36 #[.agg (bC x), .agg (plC p)] z.w fun e w' => e = .returned (.int .i64 c) ∧ Below z.w.heap.size z.w w' by have := addCmp_any x p z.w; rwa [hc] at this))
      have HCC := Lib.hid hc
      clear hc
      by_cases h1 : c < 0
      · have hd1 := decide_eq_true h1
        try simp only [Act.put, List.setIfInBounds_toArray, List.set_cons_succ, List.set_cons_zero]
        refine Agg.wp_region_later_lit (by kernel_rfl) (by kernel_rfl) ?_
        repeat (first | go_big_quiet_skip | ((first | (with_reducible refine Agg.wpQuiet_loadL HQ.out.all rfl _ rfl rfl ?_) | (with_reducible refine Agg.wpQuiet_loadL HP.out.all rfl _ rfl rfl ?_)); simp only [Act.put, List.setIfInBounds_toArray, List.set_cons_succ, List.set_cons_zero]) | go_big_quiet_step ((first | (go_at_call 36; exact Agg.Calls.later (HC.out _)))))
        refine wpQuiet_nil ?_
        intro _ hw'
        obtain ⟨x4, rfl⟩ := hw'
        go_wp2_with fail
        go_roundw
        case rel => exact ⟨h + 1, b, by go_num, rfl, HR.out.up HU.out hhb HX.out (by rw [← cmpPl_neg, HCC.out]; exact hd1), Agg.belowThen HW.out (Nat.le_refl _) x4.h⟩
        case measure => simp [intOf]; omega
      · have hd1 := decide_eq_false h1
        try simp only [Act.put, List.setIfInBounds_toArray, List.set_cons_succ, List.set_cons_zero]
        refine Agg.wp_region_later_lit (by kernel_rfl) (by kernel_rfl) ?_
        repeat (first | go_big_quiet_skip | ((first | (with_reducible refine Agg.wpQuiet_loadL HQ.out.all rfl _ rfl rfl ?_) | (with_reducible refine Agg.wpQuiet_loadL HP.out.all rfl _ rfl rfl ?_)); simp only [Act.put, List.setIfInBounds_toArray, List.set_cons_succ, List.set_cons_zero]) | go_big_quiet_step ((first | (go_at_call 36; exact Agg.Calls.later (HC.out _)))))
        refine wpQuiet_nil ?_
        intro _ hw'
        obtain ⟨x4, rfl⟩ := hw'
        go_wp2_with fail
        go_roundw
        case rel => exact ⟨a, h, rfl, rfl, HR.out.down HU.out hha hhb HX.out (by rw [← cmpPl_neg, HCC.out]; exact hd1), Agg.belowThen HW.out (Nat.le_refl _) x4.h⟩
        case measure => simp [intOf]; omega
    · obtain rfl : a = b := by omega
      have hd : decide ((a : Int) < (a : Int)) = false := by simp
      by_cases hlt2 : a < l.length
      · have hd2 : decide ((a : Int) < (l.length : Int)) = true := by simp; omega
        obtain ⟨x, hxk⟩ : ∃ x, l[a]? = some x := ⟨_, List.getElem?_eq_getElem hlt2⟩
        obtain ⟨q, hadr, hq, hin⟩ := HSW.out.at_ _ x hxk
        have HQ := Lib.hid hq
        have HX := Lib.hid hxk
        clear hq hxk hin
        obtain ⟨c, hc⟩ : ∃ c, cmpPl (plOf x.1) p = c := ⟨_, rfl⟩
        have HC := Lib.hid (fun z : Later wr1 => (show Calls Try.prog 36 #[.agg (bC x), .agg (plC p)] z.w fun e w' => e = .returned (.int .i64 c) ∧ Below z.w.heap.size z.w w' by have := addCmp_any x p z.w; rwa [hc] at this))
        obtain ⟨d, hd3⟩ : ∃ d, (c == 0) = d := ⟨_, rfl⟩
        have HCC := Lib.hid (show d = decide (plOf x.1 = p) by rw [← hd3, ← hc, cmpPl_zero])
        clear hc
        go_wp2_with fail
        try simp only [Act.put, List.setIfInBounds_toArray, List.set_cons_succ, List.set_cons_zero]
        refine Agg.wp_region_later_lit (by kernel_rfl) (by kernel_rfl) ?_
        repeat (first | go_big_quiet_skip | ((first | (with_reducible refine Agg.wpQuiet_loadL HQ.out.all rfl _ rfl rfl ?_) | (with_reducible refine Agg.wpQuiet_loadL HP.out.all rfl _ rfl rfl ?_)); simp only [Act.put, List.setIfInBounds_toArray, List.set_cons_succ, List.set_cons_zero]) | go_big_quiet_step ((first | (go_at_call 36; exact Agg.Calls.later (HC.out _)))))
        refine wpQuiet_nil ?_
        intro _ hw'
        obtain ⟨x4, rfl⟩ := hw'
        go_wp2_with fail
        go_ret2
        refine ⟨a, d, rfl, HR.out, ?_, Agg.belowThen HWW.out (Nat.le_refl _) x4.h⟩
        rw [HCC.out, decide_eq_true_eq]
        exact ⟨fun h => ⟨x, HX.out, h⟩, fun ⟨y, h1, h2⟩ => (by rw [HX.out] at h1; obtain rfl := Option.some.inj h1; exact h2)⟩
      · have hd2 : decide ((a : Int) < (l.length : Int)) = false := by simp; omega
        go_wp2_with fail
        try simp only [Act.put, List.setIfInBounds_toArray, List.set_cons_succ, List.set_cons_zero]
        refine Agg.wp_region_later_lit (by kernel_rfl) (by kernel_rfl) ?_
        repeat (first | go_big_quiet_skip | ((first | (with_reducible refine Agg.wpQuiet_loadL HP.out.all rfl _ rfl rfl ?_)); simp only [Act.put, List.setIfInBounds_toArray, List.set_cons_succ, List.set_cons_zero]) | go_big_quiet_step ((first | (go_at_call 36; exact Agg.Calls.later (addCmp_any _ _ _)))))
        refine wpQuiet_nil ?_
        intro _ hw'
        obtain ⟨x4, rfl⟩ := hw'
        go_wp2_with fail
        go_ret2
        exact ⟨a, false, rfl, HR.out, ⟨fun h => (by cases h), fun ⟨y, h1, _⟩ => (by have := (List.getElem?_eq_some_iff.1 h1).1; omega)⟩, Agg.belowThen HWW.out (Nat.le_refl _) x4.h⟩
end Go.Proofs.Ytniibcgomnjfgaa
