/- A row's argument of bytes, read and laid again; the wrap for a row of the second form with the world's shape. (Several texts in one.) -/
import Derived.Test.YtniibcgomnjfgaaJAJ
import Derived.Test.YtniibcgomnjfgaaJAL
import Derived.Test.YtniibcgomnjfgaaJAN
import Derived.Test.YtniibcgomnjfgaaJAM
import Derived.Test.YtniibcgomnjfgaaShelf
import Derived.JoinedCond
import Derived.OpenShut
import Derived.Shelf.Vars
import Derived.Lib.UnsafeStr
/-! spencekit.PathsOf; the plain laws of what is kept. -/
namespace Go.Proofs.Ytniibcgomnjfgaa
open Go.RowKit Pl Go.Agg
set_option maxRecDepth 100000 in
set_option maxHeartbeats 4000000 in
theorem pathsOf_any (v : Value) (l : List P20) (hl : l.length ≤ 1048576) (hni : ∀ x ∈ l, x.1.2.length ≤ 1048576) (w : World) (hs : ElemsAt w v l) :
    Calls Try.prog 13 #[v, .int .i64 2000] w fun e w' => ∃ n : Nat, e = .returned (.int .i64 (n : Int)) ∧ Below w.heap.size w w' := by
  have HS := Lib.hid hs
  have HNI := Lib.hid hni
  have hlv := fun W => elems_len hs W
  clear hs hni
  go_enter Try.func13, Try.ntmps13
  go_wp2_with fail
  go_loopw [5, 6] (fun n i wr => ∃ k N : Nat, k ≤ l.length ∧ N ≤ 2000000 ∧ n = .int .i64 (N : Int) ∧ i = .int .i64 (k : Int) ∧ Below w.heap.size w wr) (fun _ i _ => l.length - (intOf i).toNat)
  case atStart => exact ⟨0, 0, by omega, by omega, rfl, rfl, Below.refl _ _⟩
  case round =>
    obtain ⟨wr1, rfl⟩ : ∃ y : World, y = wr := ⟨_, rfl⟩
    obtain ⟨k, N, hk, hN, rfl, rfl, hw⟩ := hrel
    have HW := Lib.hid hw
    clear hw
    by_cases hlt : k < l.length
    · have hd : decide ((k : Int) < (l.length : Int)) = true := by simp; omega
      by_cases hN2 : N ≤ 2000
      · have hd2 : decide ((N : Int) ≤ 2000) = true := by simp; omega
        obtain ⟨x, hxk⟩ : ∃ x, l[k]? = some x := ⟨_, List.getElem?_eq_getElem hlt⟩
        obtain ⟨q, hadr, _, hq⟩ := elem_at (HS.out.below HW.out) k x hxk
        have h1 := HNI.out x (List.mem_of_getElem? hxk)
        have HQ := Lib.hid hq
        have hsz := Agg.bytes_size x.1.2
        clear hq hxk
        go_wp2_with (first | (with_reducible refine wpList_loadL HQ.out rfl _ rfl rfl ?_))
        go_roundw
        case rel => exact ⟨k + 1, N + 1 + x.1.2.length, by omega, by omega, by go_num, by go_num, HW.out⟩
        case measure => simp [intOf]; omega
      · have hd2 : decide ((N : Int) ≤ 2000) = false := by simp; omega
        go_wp2_with fail
        go_ret
        exact ⟨N, rfl, HW.out⟩
    · obtain rfl : k = l.length := by omega
      go_wp2_with fail
      go_ret
      exact ⟨N, rfl, HW.out⟩
/-! plain -/
theorem map_filterK {l : List Bu} (p : Bu → Bool) (h : Gr.MapP plOf ltPl rightBu l) : Gr.MapP plOf ltPl rightBu (l.filter p) := by
  rw [Gr.mapP_iff ltPl_ord] at h ⊢
  exact ⟨fun x hx => h.1 x (List.mem_filter.1 hx).1, List.Pairwise.filter _ h.2⟩
theorem rising_len : ∀ (R S : List P20), Rising R → (∀ q ∈ R, q ∈ S) → R.length ≤ S.length
  | [], _, _, _ => by simp
  | a :: t, S, hr, hm => by
    obtain ⟨h1, h2⟩ := List.pairwise_cons.1 hr
    have ha : a ∈ S := hm a (by simp)
    have h3 := rising_len t (S.erase a) h2 fun q hq => by
      have hne : q ≠ a := fun e => by
        have := h1 q hq
        rw [e, lt20_irrefl] at this
        cases this
      exact (List.mem_erase_of_ne hne).2 (hm q (by simp [hq]))
    rw [List.length_erase_of_mem ha] at h3
    have h4 : 0 < S.length := List.length_pos_of_mem ha
    simp only [List.length_cons]
    omega
theorem kept_own {l : List BuV} {R : List P20} (hm : ∀ q, q ∈ R ↔ ∃ x ∈ l, x.1.pa = q) : (l.map (·.1)).filter (fun y => decide (y.pa ∈ R)) = l.map (·.1) := by
  rw [List.filter_eq_self]
  intro y hy
  obtain ⟨x, hx, rfl⟩ := List.mem_map.1 hy
  exact decide_eq_true ((hm _).2 ⟨x, hx, rfl⟩)
theorem kept_none {lz l : List BuV} (h : lz.map (·.1) = (l.map (·.1)).filter (fun y => decide (y.pa ∈ ([] : List P20)))) : lz = [] := by
  have : (l.map (·.1)).filter (fun y => decide (y.pa ∈ ([] : List P20))) = [] := by simp
  rw [this] at h
  exact List.map_eq_nil_iff.1 h
theorem kept_twice {l : List Bu} {p : Bu → Bool} : (l.filter p).filter p = l.filter p := by rw [List.filter_filter]; simp
theorem kept_le {lv l : List BuV} {p : Bu → Bool} (h : lv.map (·.1) = (l.map (·.1)).filter p) : lv.length ≤ l.length := by
  have := congrArg List.length h
  rw [List.length_map] at this
  rw [this]
  exact Nat.le_trans (List.length_filter_le _ _) (by simp)
theorem kept_in {lv l : List BuV} {p : Bu → Bool} (h : lv.map (·.1) = (l.map (·.1)).filter p) {x : BuV} (hx : x ∈ lv) : p x.1 = true ∧ ∃ z ∈ l, z.1 = x.1 := by
  have h1 : x.1 ∈ (l.map (·.1)).filter p := h ▸ List.mem_map.2 ⟨x, hx, rfl⟩
  obtain ⟨h2, h3⟩ := List.mem_filter.1 h1
  exact ⟨h3, List.mem_map.1 h2⟩
theorem kept_ins {lv l : List BuV} {p : Bu → Bool} (h : lv.map (·.1) = (l.map (·.1)).filter p) (hn : ∀ x ∈ l, x.1.ins.length ≤ 1048576) : ∀ x ∈ lv, x.1.ins.length ≤ 1048576 := fun x hx => by
  obtain ⟨_, z, hz, e⟩ := kept_in h hx
  rw [← e]; exact hn z hz
/-- how many up to a place are such -/
def cntK (p : Bu → Bool) (lv : List BuV) (k : Nat) : Nat := ((lv.map (·.1)).take k).countP p
theorem cntK_zero (p : Bu → Bool) (lv : List BuV) : cntK p lv 0 = 0 := rfl
theorem cntK_succ {p : Bu → Bool} {lv : List BuV} {y : BuV} {j : Nat} (hy : lv[j]? = some y) : cntK p lv (j + 1) = cntK p lv j + if p y.1 then 1 else 0 := by
  unfold cntK
  rw [List.take_add_one, List.getElem?_map, hy]
  simp [List.countP_append, List.countP_cons]
theorem cntK_le (p : Bu → Bool) (lv : List BuV) (j : Nat) : cntK p lv j ≤ lv.length := by
  unfold cntK
  exact Nat.le_trans List.countP_le_length (by simp; omega)
theorem cntK_all {p : Bu → Bool} {lv lc : List BuV} (h : lc.map (·.1) = (lv.map (·.1)).filter p) : cntK p lv lv.length = lc.length := by
  unfold cntK
  rw [List.take_of_length_le (by simp), List.countP_eq_length_filter, ← h, List.length_map]
/-- whether a path was seen up to a place -/
theorem mem_takeK {held : List P20} {x q : P20} {k : Nat} (h : held[k]? = some x) : decide (q ∈ held.take (k + 1)) = (decide (q ∈ held.take k) || decide (x = q)) := by
  rw [List.take_add_one, h, Bool.eq_iff_iff]
  simp only [Option.toList, List.mem_append, List.mem_singleton, decide_eq_true_eq, Bool.or_eq_true]
  constructor
  · rintro (h | h)
    · exact .inl h
    · exact .inr h.symm
  · rintro (h | h)
    · exact .inl h
    · exact .inr h.symm
end Go.Proofs.Ytniibcgomnjfgaa
/-! RealKeeps answers true. -/
namespace Go.Proofs.Ytniibcgomnjfgaa
open Go.RowKit Pl Go.Agg
set_option maxRecDepth 100000 in
set_option maxHeartbeats 32000000 in
theorem realKeeps_any (v u : Value) (h : H20) (l : List BuV) (held : List P20) (hl : l.length ≤ 1048576) (hni : ∀ x ∈ l, x.1.ins.length ≤ 1048576 ∧ x.1.pa.1.2.length ≤ 1048576 ∧ ∀ m ∈ x.1.ins, m.2.1.2.length ≤ 1048576) (hh : held.length ≤ 1048576) (hhn : ∀ q ∈ held, q.1.2.length ≤ 1048576) (w : World) (hs : BusAt w v l) (ht : ElemsAt w u held) :
    Calls Try.prog 4 #[v, u, .agg (hC h.1)] w fun e w' => e = .returned (.bool true) ∧ Below w.heap.size w w' := by
  have HE2 := Lib.hid (enters_of Try.func16 (by kernel_rfl) rfl : ∀ args w, (callFunc 16 args).run Try.prog w = .ok (.enter 16 args) w)
  have HE5 := Lib.hid (enters_of Try.func17 (by kernel_rfl) rfl : ∀ args w, (callFunc 17 args).run Try.prog w = .ok (.enter 17 args) w)
  have HS := Lib.hid hs
  have HT := Lib.hid ht
  have HN3 := Lib.hid hni
  have HHN := Lib.hid hhn
  have HNI := Lib.hid (fun x hx => (hni x hx).1 : ∀ x ∈ l, x.1.ins.length ≤ 1048576)
  have hlh := fun W => elems_len ht W
  clear hs ht hni hhn
  go_enter Try.func4, Try.ntmps4
  go_wp2_with (first | (with_reducible refine wpList_box rfl 30 _ rfl (hC h.1) rfl ?_; intro g5 w1 hb1 hx1 hg1; have HB1 := Lib.hid (hb1.loads (P := Try.prog) Try.underlying30 rfl (hC_info _ h.2)); have HX1 := Lib.hid hx1; clear hb1 hx1 hg1))
  refine (awake22_any w1).mono ?_
  rintro e w2 ⟨rfl, hx2⟩
  have HZ2 := Lib.hid hx2
  have HX2 := Lib.hid (Agg.belowThen HX1.out (Nat.le_refl _) hx2)
  clear hx2
  go_wp2_with fail
  refine (builtsOf_any v l hl HN3.out w2 (HS.out.below HX2.out)).mono ?_
  rintro e w3 ⟨n3, rfl, hx3⟩
  have HZ3 := Lib.hid (Agg.belowThen HZ2.out (Nat.le_refl _) hx3)
  have HX3 := Lib.hid (Agg.belowThen HX2.out (Nat.le_refl _) hx3)
  clear hx3
  by_cases hn3 : 2000 < (n3 : Int)
  · have hdn := decide_eq_true hn3
    go_wp2_with fail
    go_ret
    exact ⟨rfl, HX3.out⟩
  have hdn := decide_eq_false hn3
  clear hn3
  go_wp2_with fail
  refine (pathsOf_any u held hh HHN.out w3 (SliceOf.below HT.out HX3.out)).mono ?_
  rintro e w4 ⟨n4, rfl, hx4⟩
  have HZ4 := Lib.hid (Agg.belowThen HZ3.out (Nat.le_refl _) hx4)
  have HX4 := Lib.hid (Agg.belowThen HX3.out (Nat.le_refl _) hx4)
  clear hx4
  by_cases hn4 : 2000 < (n4 : Int)
  · have hdn4 := decide_eq_true hn4
    go_wp2_with fail
    go_ret
    exact ⟨rfl, HX4.out⟩
  have hdn4 := decide_eq_false hn4
  clear hn4
  go_wp2_with fail
  refine (buMap_any v l hl w4 (HS.out.below HX4.out)).mono ?_
  rintro e w5 ⟨bm, rfl, hbm, hx5⟩
  have HZ5 := Lib.hid (Agg.belowThen HZ4.out (Nat.le_refl _) hx5)
  have HX5 := Lib.hid (Agg.belowThen HX4.out (Nat.le_refl _) hx5)
  clear hx5
  cases bm with
  | false =>
    go_wp2_with fail
    go_ret
    exact ⟨rfl, HX5.out⟩
  | true =>
  have HMP := Lib.hid (hbm.1 rfl)
  clear hbm
  go_wp2_with fail
  refine (kept_any v u l held hl hh HNI.out w5 (HS.out.below HX5.out) (SliceOf.below HT.out HX5.out)).mono ?_
  rintro e w6 ⟨v7, lk, rfl, hk6, hkm, hx6⟩
  have HZ6 := Lib.hid (Agg.belowThen HZ5.out (Nat.le_refl _) hx6)
  have HX6 := Lib.hid (Agg.belowThen HX5.out (Nat.le_refl _) hx6)
  have HK6 := Lib.hid hk6
  have HKM := Lib.hid hkm
  have hlkl := kept_le hkm
  have hlk : lk.length ≤ 1048576 := by omega
  have HNK := Lib.hid (kept_ins hkm HNI.out)
  have hlkv := fun W => bus_len hk6 W
  clear hk6 hkm hx6 hlkl
  go_wp2_with fail
  refine (pathsB_any v l hl w6 (HS.out.below HX6.out)).mono ?_
  rintro e w7 ⟨v7p, R, rfl, hr7, hm7, he7, hx7⟩
  have HZ7 := Lib.hid (Agg.belowThen HZ6.out (Nat.le_refl _) hx7)
  have HX7 := Lib.hid (Agg.belowThen HX6.out (Nat.le_refl _) hx7)
  have HK7 := Lib.hid (HK6.out.below hx7)
  have HR7 := Lib.hid hm7
  have HRE := Lib.hid he7
  have hRl : R.length ≤ 1048576 := by
    have := rising_len R (l.map fun x => x.1.pa) hr7 (fun q hq => by obtain ⟨x, hx, e⟩ := (hm7 q).1 hq; exact List.mem_map.2 ⟨x, hx, e⟩)
    rw [List.length_map] at this
    omega
  clear hr7 hm7 he7 hx7
  go_wp2_with fail
  refine (kept_any v v7p l R hl hRl HNI.out w7 (HS.out.below HX7.out) HRE.out).mono ?_
  rintro e w9 ⟨v8, la, rfl, hk9, hkm9, hx9⟩
  have HZ9 := Lib.hid (Below.refl w9.heap.size w9)
  have HB1 := Lib.hid (HB1.out.below (Agg.belowThen HZ7.out (Nat.le_refl _) hx9))
  have HX9 := Lib.hid (Agg.belowThen HX7.out (Nat.le_refl _) hx9)
  have HK := Lib.hid (HK7.out.below hx9)
  have HA := Lib.hid hk9
  have HAM := Lib.hid (show la.map (·.1) = l.map (·.1) by rw [hkm9, kept_own HR7.out])
  have hlal : la.length ≤ 1048576 := Nat.le_trans (kept_le hkm9) hl
  have HNA := Lib.hid (kept_ins hkm9 HNI.out)
  clear hk9 hkm9 hx9
  go_wp2_with fail
  obtain ⟨w10, hw10⟩ : ∃ W, W = w9.drew := ⟨_, rfl⟩
  have hd : Below w9.heap.size w9 w10 := by rw [hw10]; exact (Below.refl _ _).drew
  have HB10 := Lib.hid (HB1.out.below hd)
  have HX10 := Lib.hid (Agg.belowThen HX9.out (Nat.le_refl _) hd)
  have HY10 := Lib.hid (Agg.belowThen HZ9.out (Nat.le_refl _) hd)
  try simp only [List.append_eq, List.cons_append, List.nil_append]
  try simp only [Act.put, List.setIfInBounds_toArray, List.set_cons_succ, List.set_cons_zero]
  refine wp_region_held_drew (S := fun W => LoadsL Try.prog W 30 (some ⟨g5, 0, none⟩) (.agg (hC h.1))) (by kernel_rfl) (by rw [← hw10]; exact HB10.out) (fun hHeld => ?_)
  rw [← hw10] at hHeld ⊢
  clear hw10 hd
  refine Agg.held_take 0 (v7) rfl (by kernel_rfl) (fun _ _ _ h => h) rfl (fun W _ => by kernel_rfl) (by assumption) ?_
  try simp only [Act.put, List.setIfInBounds_toArray, List.set_cons_succ, List.set_cons_zero]
  refine Agg.held_take 1 (.agg (hC h.1)) rfl (by kernel_rfl) (fun _ _ _ h => h) rfl (fun W hS => exec_loadB rfl rfl hS.now) (by assumption) ?_
  try simp only [Act.put, List.setIfInBounds_toArray, List.set_cons_succ, List.set_cons_zero]
  refine Agg.held_take 3 (v7) rfl (by kernel_rfl) (fun _ _ _ h => h) rfl (fun W _ => by kernel_rfl) (by assumption) ?_
  try simp only [Act.put, List.setIfInBounds_toArray, List.set_cons_succ, List.set_cons_zero]
  refine Agg.held_take 4 (.agg (hC h.1)) rfl (by kernel_rfl) (fun _ _ _ h => h) rfl (fun W hS => exec_loadB rfl rfl hS.now) (by assumption) ?_
  try simp only [Act.put, List.setIfInBounds_toArray, List.set_cons_succ, List.set_cons_zero]
  refine Agg.held_ready [2] (by kernel_rfl) (by simp) ?_
  refine Agg.held_cons rfl ?_ ?_
  · refine Agg.step_call rfl 16 _ _ rfl #[v7, .agg (hC h.1)] (by simp only [List.map_toArray, List.map_cons, List.map_nil]; rfl) (fun W => HE2.out _ W) ?_
    refine (ofClass_any v7 lk hlk HNK.out h w10 (HK.out.below HY10.out)).mono ?_
    rintro e w11 ⟨v9, lc, rfl, ho, hm, hx⟩
    have HCL := Lib.hid (cntK_all hm)
    have hllc := fun W => bus_len ho W
    have HX11 := Lib.hid (Agg.belowThen HX10.out (Nat.le_refl _) hx)
    have HY11 := Lib.hid (Agg.belowThen HY10.out (Nat.le_refl _) hx)
    have HB11 := Lib.hid (HB10.out.below hx)
    clear ho hm hx
    refine ⟨_, rfl, HB11.out, ?_⟩
    try simp only [Act.put, List.setIfInBounds_toArray, List.set_cons_succ, List.set_cons_zero]
    refine Agg.held_ready [5] (by kernel_rfl) (by simp) ?_
    refine Agg.held_cons rfl ?_ ?_
    · refine Agg.step_call rfl 17 _ _ rfl #[v7, .agg (hC h.1)] (by simp only [List.map_toArray, List.map_cons, List.map_nil]; rfl) (fun W => HE5.out _ W) ?_
      refine (ofKey_any v7 lk hlk HNK.out h w11 (HK.out.below HY11.out)).mono ?_
      rintro e w12 ⟨v10, ly, rfl, ho, hm, hx⟩
      have HYL := Lib.hid (cntK_all hm)
      have hlly := fun W => bus_len ho W
      have HX12 := Lib.hid (Agg.belowThen HX11.out (Nat.le_refl _) hx)
      have HY12 := Lib.hid (Agg.belowThen HY11.out (Nat.le_refl _) hx)
      have HB12 := Lib.hid (HB11.out.below hx)
      clear ho hm hx
      refine ⟨_, rfl, HB12.out, ?_⟩
      try simp only [Act.put, List.setIfInBounds_toArray, List.set_cons_succ, List.set_cons_zero]
      refine Agg.held_take 6 (v9) rfl (by kernel_rfl) (fun _ _ _ h => h) rfl (fun W _ => by kernel_rfl) (by assumption) ?_
      try simp only [Act.put, List.setIfInBounds_toArray, List.set_cons_succ, List.set_cons_zero]
      refine Agg.held_take 7 (v10) rfl (by kernel_rfl) (fun _ _ _ h => h) rfl (fun W _ => by kernel_rfl) (by assumption) ?_
      try simp only [Act.put, List.setIfInBounds_toArray, List.set_cons_succ, List.set_cons_zero]
      refine Agg.held_end (by kernel_rfl) ?_
      go_wp2_with fail
      refine (buMap_any v7 lk hlk w12 (HK.out.below HY12.out)).mono ?_
      rintro e w13 ⟨bm2, rfl, hbm2, hx13⟩
      obtain rfl : bm2 = true := hbm2.2 (by rw [HKM.out]; exact map_filterK _ HMP.out)
      have HY13 := Lib.hid (Agg.belowThen HY12.out (Nat.le_refl _) hx13)
      have HX13 := Lib.hid (Agg.belowThen HX12.out (Nat.le_refl _) hx13)
      have HB13 := Lib.hid (HB12.out.below hx13)
      clear hbm2 hx13
      go_wp2_with fail
      refine (sameBus_any v8 v la l hlal HNA.out w13 (HA.out.below HY13.out) (HS.out.below HX13.out)).mono ?_
      rintro e w14 ⟨rfl, hx14⟩
      rw [decide_eq_true HAM.out]
      have HY14 := Lib.hid (Agg.belowThen HY13.out (Nat.le_refl _) hx14)
      have HX14 := Lib.hid (Agg.belowThen HX13.out (Nat.le_refl _) hx14)
      have HB14 := Lib.hid (HB13.out.below hx14)
      clear hx14
      go_wp2_with fail
      refine (kept_any v (.slice none 0 0) l [] hl (by simp) HNI.out w14 (HS.out.below HX14.out) (SliceOf.nil _ _ _)).mono ?_
      rintro e w15 ⟨v15, lz, rfl, hk15, hkm15, hx15⟩
      obtain rfl := kept_none hkm15
      have hlz := fun W => bus_len hk15 W
      have HY15 := Lib.hid (Agg.belowThen HY14.out (Nat.le_refl _) hx15)
      have HX15 := Lib.hid (Agg.belowThen HX14.out (Nat.le_refl _) hx15)
      have HB15 := Lib.hid (HB14.out.below hx15)
      clear hk15 hkm15 hx15
      rw [List.length_nil] at hlz
      go_wp2_with fail
      refine (kept_any v7 u lk held hlk hh HNK.out w15 (HK.out.below HY15.out) (SliceOf.below HT.out HX15.out)).mono ?_
      rintro e w16 ⟨v16, lm, rfl, hk16, hkm16, hx16⟩
      have HM16 := Lib.hid hk16
      have HMM := Lib.hid (show lm.map (·.1) = lk.map (·.1) by rw [hkm16, HKM.out, kept_twice])
      have hlml : lm.length ≤ 1048576 := Nat.le_trans (kept_le hkm16) hlk
      have HNM := Lib.hid (kept_ins hkm16 HNK.out)
      have HY16 := Lib.hid (Agg.belowThen HY15.out (Nat.le_refl _) hx16)
      have HX16 := Lib.hid (Agg.belowThen HX15.out (Nat.le_refl _) hx16)
      have HB16 := Lib.hid (HB15.out.below hx16)
      clear hk16 hkm16 hx16
      go_wp2_with fail
      refine (sameBus_any v16 v7 lm lk hlml HNM.out w16 HM16.out (HK.out.below HY16.out)).mono ?_
      rintro e w17 ⟨rfl, hx17⟩
      rw [decide_eq_true HMM.out]
      have HY17 := Lib.hid (Agg.belowThen HY16.out (Nat.le_refl _) hx17)
      have HX17 := Lib.hid (Agg.belowThen HX16.out (Nat.le_refl _) hx17)
      have HB17 := Lib.hid (HB16.out.below hx17)
      clear hx17
      go_wp2_with fail
      go_loopw [11, 12, 13] (fun c y i wr => ∃ k : Nat, k ≤ lk.length ∧ c = .int .i64 ((cntK (fun b => decide (b.cl = h)) lk k : Nat) : Int) ∧ y = .int .i64 ((cntK (fun b => decide (b.ky = h)) lk k : Nat) : Int) ∧ i = .int .i64 (k : Int) ∧ Below w17.heap.size w17 wr) (fun _ _ i _ => lk.length - (intOf i).toNat)
      case atStart => exact ⟨0, by omega, by rw [cntK_zero]; rfl, by rw [cntK_zero]; rfl, rfl, Below.refl _ _⟩
      case round =>
        obtain ⟨wr1, rfl⟩ : ∃ y : World, y = wr := ⟨_, rfl⟩
        obtain ⟨k, hk, rfl, rfl, rfl, hw⟩ := hrel
        have HW := Lib.hid hw
        have hc1 := cntK_le (fun b => decide (b.cl = h)) lk k
        have hc2 := cntK_le (fun b => decide (b.ky = h)) lk k
        by_cases hlt : k < lk.length
        · have hd : decide ((k : Int) < (lk.length : Int)) = true := decide_eq_true (by omega)
          obtain ⟨y, hyk⟩ : ∃ y, lk[k]? = some y := ⟨_, List.getElem?_eq_getElem hlt⟩
          obtain ⟨q2, hadr2, hq2, _⟩ := (HK.out.below (Agg.belowThen HY17.out (Nat.le_refl _) hw)).at_ k y hyk
          have HQ1 := Lib.hid hq2
          have HYK := Lib.hid hyk
          have HIN := Lib.hid (show decide (y.1.pa ∈ held) = true from (kept_in HKM.out (List.mem_of_getElem? hyk)).1)
          clear hq2 hyk hw
          go_wp2_with fail
          go_loopw [14, 15] (fun f i ws => ∃ j : Nat, j ≤ held.length ∧ f = .bool (decide (y.1.pa ∈ held.take j)) ∧ i = .int .i64 (j : Int) ∧ Below wr1.heap.size wr1 ws) (fun _ i _ => held.length - (intOf i).toNat)
          case atStart => exact ⟨0, by omega, by simp, rfl, Below.refl _ _⟩
          case round =>
            obtain ⟨ws1, rfl⟩ : ∃ y : World, y = wr := ⟨_, rfl⟩
            obtain ⟨j, hj, rfl, rfl, hws⟩ := hrel
            have HV := Lib.hid hws
            have HWS := Lib.hid (Agg.belowThen HW.out (Nat.le_refl _) hws)
            have HQ2 := Lib.hid (HQ1.out.below hws)
            by_cases hjh : j < held.length
            · have hdj : decide ((j : Int) < (held.length : Int)) = true := decide_eq_true (by omega)
              obtain ⟨x, hxj⟩ : ∃ x, held[j]? = some x := ⟨_, List.getElem?_eq_getElem hjh⟩
              obtain ⟨q1, hadr1, hq1, _⟩ := elem_at (SliceOf.below HT.out (Agg.belowThen HX17.out (Nat.le_refl _) HWS.out)) j x hxj
              have HQH := Lib.hid hq1
              have HMT := Lib.hid (mem_takeK (q := y.1.pa) hxj)
              obtain ⟨e8, he8⟩ : ∃ e, decide (x = y.1.pa) = e := ⟨_, rfl⟩
              have HE8 := Lib.hid (fun W => (show (binOp .eql 32 (.agg (pC x.1.1 x.1.2)) (.agg (pC y.1.pa.1.1 y.1.pa.1.2))).run Try.prog W = .ok (.bool e8) W by rw [eqlPB, he8]))
              rw [he8] at HMT
              clear hq1 hxj hws he8
              generalize decide (y.1.pa ∈ held.take j) = fb at *
              cases fb with
              | true =>
                go_wp2_with fail
                try simp only [List.append_eq, List.cons_append, List.nil_append]
                try simp only [Act.put, List.setIfInBounds_toArray, List.set_cons_succ, List.set_cons_zero]
                refine Agg.wp_region_later_lit (by kernel_rfl) (by kernel_rfl) ?_
                repeat (first | go_big_quiet_skip | ((first | fail); simp only [Act.put, List.setIfInBounds_toArray, List.set_cons_succ, List.set_cons_zero]) | go_big_quiet_step (fail))
                refine wpQuiet_nil ?_
                intro _ hw'
                obtain ⟨x8, rfl⟩ := hw'
                go_wp2_with fail
                go_roundw
                case rel => exact ⟨j + 1, by omega, by rw [HMT.out]; rfl, by go_num, Agg.belowThen HV.out (Nat.le_refl _) x8.h⟩
                case measure => simp [intOf]; omega
              | false =>
                go_wp2_with fail
                try simp only [List.append_eq, List.cons_append, List.nil_append]
                try simp only [Act.put, List.setIfInBounds_toArray, List.set_cons_succ, List.set_cons_zero]
                refine Agg.wp_region_later_lit (by kernel_rfl) (by kernel_rfl) ?_
                repeat (first | go_big_quiet_skip | ((first | (with_reducible refine Agg.wpQuiet_loadL HQH.out rfl _ rfl rfl ?_) | (with_reducible refine Agg.wpQuiet_loadL HQ2.out.path rfl _ rfl rfl ?_) | (with_reducible refine Agg.wpQuiet_eql rfl 32 32 _ _ rfl (pC x.1.1 x.1.2) (pC y.1.pa.1.1 y.1.pa.1.2) rfl rfl _ (by kernel_rfl) HE8.out ?_)); simp only [Act.put, List.setIfInBounds_toArray, List.set_cons_succ, List.set_cons_zero]) | go_big_quiet_step (fail))
                refine wpQuiet_nil ?_
                intro _ hw'
                obtain ⟨x8, rfl⟩ := hw'
                go_wp2_with fail
                go_roundw
                case rel => exact ⟨j + 1, by omega, by rw [HMT.out]; rfl, by go_num, Agg.belowThen HV.out (Nat.le_refl _) x8.h⟩
                case measure => simp [intOf]; omega
            · obtain rfl : j = held.length := by omega
              have hdj : decide ((held.length : Int) < (held.length : Int)) = false := by simp
              rw [List.take_length, HIN.out]
              have HQ3 := HQ2
              have HW3 := HWS
              have HB3 := Lib.hid (HB17.out.below HWS.out)
              obtain ⟨e1, h1⟩ : ∃ e, decide (y.1.cl = h) = e := ⟨_, rfl⟩
              obtain ⟨e2, h2⟩ : ∃ e, decide (y.1.ky = h) = e := ⟨_, rfl⟩
              have HC1 := Lib.hid h1
              have HC2 := Lib.hid h2
              have HE1 := Lib.hid (fun W => (show (binOp .eql 30 (.agg (hC y.1.cl.1)) (.agg (hC h.1))).run Try.prog W = .ok (.bool e1) W by rw [eqlHB, h1]))
              have HE2k := Lib.hid (fun W => (show (binOp .eql 30 (.agg (hC y.1.ky.1)) (.agg (hC h.1))).run Try.prog W = .ok (.bool e2) W by rw [eqlHB, h2]))
              clear h1 h2 hws
              generalize hC1 : cntK (fun b => decide (b.cl = h)) lk k = C1 at *
              generalize hC2 : cntK (fun b => decide (b.ky = h)) lk k = C2 at *
              go_wp2_with fail
              try simp only [List.append_eq, List.cons_append, List.nil_append]
              try simp only [Act.put, List.setIfInBounds_toArray, List.set_cons_succ, List.set_cons_zero]
              refine Agg.wp_region_later_lit (by kernel_rfl) (by kernel_rfl) ?_
              repeat (first | go_big_quiet_skip | ((first | (with_reducible refine Agg.wpQuiet_loadL HQ3.out.cls rfl _ rfl rfl ?_) | (with_reducible refine Agg.wpQuiet_loadL HB3.out rfl _ rfl rfl ?_) | (with_reducible refine Agg.wpQuiet_eql rfl 30 30 _ _ rfl (hC y.1.cl.1) (hC h.1) rfl rfl _ (by kernel_rfl) HE1.out ?_)); simp only [Act.put, List.setIfInBounds_toArray, List.set_cons_succ, List.set_cons_zero]) | go_big_quiet_step (fail))
              refine wpQuiet_nil ?_
              intro _ hw'
              obtain ⟨x9, rfl⟩ := hw'
              have HQ4 := Lib.hid (HQ3.out.below x9.h)
              have HB4 := Lib.hid (HB3.out.below x9.h)
              have HW5 := Lib.hid (Agg.belowThen HW3.out (Nat.le_refl _) x9.h)
              generalize x9.w = w9 at *
              cases e1 with
              | false =>
                go_wp2_with fail
                try simp only [List.append_eq, List.cons_append, List.nil_append]
                try simp only [Act.put, List.setIfInBounds_toArray, List.set_cons_succ, List.set_cons_zero]
                refine Agg.wp_region_later_lit (by kernel_rfl) (by kernel_rfl) ?_
                repeat (first | go_big_quiet_skip | ((first | (with_reducible refine Agg.wpQuiet_loadL HQ4.out.key rfl _ rfl rfl ?_) | (with_reducible refine Agg.wpQuiet_loadL HB4.out rfl _ rfl rfl ?_) | (with_reducible refine Agg.wpQuiet_eql rfl 30 30 _ _ rfl (hC y.1.ky.1) (hC h.1) rfl rfl _ (by kernel_rfl) HE2k.out ?_)); simp only [Act.put, List.setIfInBounds_toArray, List.set_cons_succ, List.set_cons_zero]) | go_big_quiet_step (fail))
                refine wpQuiet_nil ?_
                intro _ hw'
                obtain ⟨x10, rfl⟩ := hw'
                cases e2 with
                | false =>
                  go_wp2_with fail
                  go_roundw
                  case rel => exact ⟨k + 1, by omega, by rw [cntK_succ HYK.out]; simp only [HC1.out]; go_num, by rw [cntK_succ HYK.out]; simp only [HC2.out]; go_num, by go_num, Agg.belowThen HW5.out (Nat.le_refl _) x10.h⟩
                  case measure => simp [intOf]; omega
                | true =>
                  go_wp2_with fail
                  go_roundw
                  case rel => exact ⟨k + 1, by omega, by rw [cntK_succ HYK.out]; simp only [HC1.out]; go_num, by rw [cntK_succ HYK.out]; simp only [HC2.out]; go_num, by go_num, Agg.belowThen HW5.out (Nat.le_refl _) x10.h⟩
                  case measure => simp [intOf]; omega
              | true =>
                go_wp2_with fail
                try simp only [List.append_eq, List.cons_append, List.nil_append]
                try simp only [Act.put, List.setIfInBounds_toArray, List.set_cons_succ, List.set_cons_zero]
                refine Agg.wp_region_later_lit (by kernel_rfl) (by kernel_rfl) ?_
                repeat (first | go_big_quiet_skip | ((first | (with_reducible refine Agg.wpQuiet_loadL HQ4.out.key rfl _ rfl rfl ?_) | (with_reducible refine Agg.wpQuiet_loadL HB4.out rfl _ rfl rfl ?_) | (with_reducible refine Agg.wpQuiet_eql rfl 30 30 _ _ rfl (hC y.1.ky.1) (hC h.1) rfl rfl _ (by kernel_rfl) HE2k.out ?_)); simp only [Act.put, List.setIfInBounds_toArray, List.set_cons_succ, List.set_cons_zero]) | go_big_quiet_step (fail))
                refine wpQuiet_nil ?_
                intro _ hw'
                obtain ⟨x10, rfl⟩ := hw'
                cases e2 with
                | false =>
                  go_wp2_with fail
                  go_roundw
                  case rel => exact ⟨k + 1, by omega, by rw [cntK_succ HYK.out]; simp only [HC1.out]; go_num, by rw [cntK_succ HYK.out]; simp only [HC2.out]; go_num, by go_num, Agg.belowThen HW5.out (Nat.le_refl _) x10.h⟩
                  case measure => simp [intOf]; omega
                | true =>
                  go_wp2_with fail
                  go_roundw
                  case rel => exact ⟨k + 1, by omega, by rw [cntK_succ HYK.out]; simp only [HC1.out]; go_num, by rw [cntK_succ HYK.out]; simp only [HC2.out]; go_num, by go_num, Agg.belowThen HW5.out (Nat.le_refl _) x10.h⟩
                  case measure => simp [intOf]; omega
        · obtain rfl : k = lk.length := by omega
          have hd : decide ((lk.length : Int) < (lk.length : Int)) = false := by simp
          rw [HCL.out, HYL.out]
          have hd1 : decide ((lc.length : Int) = (lc.length : Int)) = true := decide_eq_true rfl
          have hd2 : decide ((ly.length : Int) = (ly.length : Int)) = true := decide_eq_true rfl
          go_wp2_with fail
          go_ret
          exact ⟨rfl, Agg.belowThen HX17.out (Nat.le_refl _) HW.out⟩
    exact AllReadyH.nil
  exact AllReadyH.nil
end Go.Proofs.Ytniibcgomnjfgaa
/-! A row's argument of bytes, read and laid again; the wrap for a row of the second form with the world's shape. -/
namespace Go.Agg
open Go.RowKit Go.ChangeShapes Go.WideShapes Go.ChangeAt
section
variable {H : Type} {enc : TypeId × Value → H} {P : Program} {w : World} {base : Nat} {sp : Nat → Bool} {held : Bool}
/-- bytes, as data -/
def byteData {H : Type} (l : List UInt8) : List (DataW H) := l.map fun c => .lit (.int .u8 (c.toNat : Int))
theorem open_bytes {t e : TypeId} {n fuel : Nat} {cs : List Value} {x : DataW H × List MemPlace} (ht : P.underlying t = some (.array n e)) (he : P.underlying e = some (.int .u8)) (hc : P.cellsOf e = 1) (hn : P.cellsOf t = n)
    (h : DataW.trod enc P w base sp held fuel t cs = some x) : ∃ l : List UInt8, l.length = n ∧ cs = Lib.byteCells l ∧ x = (.agg (byteData l), []) := by
  obtain ⟨xs, m, rfl, rfl, hl, hx, ha⟩ := DataW.trod_array ht h
  have key : ∀ i, i < n → ∃ c : UInt8, cs[i]? = some (.int .u8 (c.toNat : Int)) ∧ xs[i]? = some (.lit (.int .u8 (c.toNat : Int)), []) := fun i hi => by
    have hxi : xs[i]? = some xs[i] := List.getElem?_eq_getElem (by omega)
    have h1 := (ha i hi).trans hxi
    rw [hc] at h1
    obtain ⟨k, hk, hd, hw⟩ := DataW.trod_int he h1
    have hb := bounds_u8 hw
    refine ⟨UInt8.ofNat k.toNat, ?_, ?_⟩
    · have : (cs.drop (i * 1)).take 1 = [.int .u8 k] := hk
      have h2 := congrArg (·[0]?) this
      simp at h2
      rw [h2]
      simp; omega
    · rw [hxi, hd]
      simp; omega
  have hlen : cs.length = n := hl.trans hn
  refine ⟨cs.map fun | .int _ k => UInt8.ofNat k.toNat | _ => 0, by simp [hlen], ?_, ?_⟩
  · refine List.ext_getElem? fun i => ?_
    by_cases hi : i < n
    · obtain ⟨c, h1, _⟩ := key i hi
      simp [Lib.byteCells, h1]
    · rw [List.getElem?_eq_none (by omega), List.getElem?_eq_none (by simp [Lib.byteCells]; omega)]
  · have hfst : xs.map (·.1) = byteData (cs.map fun | .int _ k => UInt8.ofNat k.toNat | _ => 0) := by
      refine List.ext_getElem? fun i => ?_
      by_cases hi : i < n
      · obtain ⟨c, h1, h2⟩ := key i hi
        simp [byteData, h1, h2]
      · rw [List.getElem?_eq_none (by simp; omega), List.getElem?_eq_none (by simp [byteData]; omega)]
    have hsnd : xs.flatMap (·.2) = [] := by
      rw [List.flatMap_eq_nil_iff]
      intro y hy
      obtain ⟨i, hi, rfl⟩ := List.getElem_of_mem hy
      obtain ⟨c, _, h2⟩ := key i (by omega)
      rw [List.getElem?_eq_getElem hi] at h2
      rw [Option.some.inj h2]
    rw [hfst, hsnd]
theorem mapM_each {β : Type} {f : Nat → Option β} : ∀ (is : List Nat) (ys : List β), is.length = ys.length → (∀ (k i : Nat) (y : β), is[k]? = some i → ys[k]? = some y → f i = some y) → is.mapM f = some ys
  | [], [], _, _ => by simp
  | i :: is, y :: ys, hl, h => by
    have h0 := h 0 i y rfl rfl
    have ih := mapM_each (f := f) is ys (by simpa using hl) (fun k i y hi hy => h (k + 1) i y (by simpa using hi) (by simpa using hy))
    simp [List.mapM_cons, h0, ih]
  | [], _ :: _, hl, _ => by simp at hl
  | _ :: _, [], hl, _ => by simp at hl
theorem shut_bytes {t e : TypeId} {n : Nat} (ht : P.underlying t = some (.array n e)) (he : P.underlying e = some (.int .u8)) (hc : P.cellsOf e = 1) (hn : P.cellsOf t = n) (l : List UInt8) (hl : l.length = n) :
    DataW.trod enc P w base sp held 2 t (Lib.byteCells l) = some (.agg (byteData l), []) := by
  have hm : (List.range n).mapM (fun i => DataW.trod enc P w base sp held 1 e (((Lib.byteCells l).drop (i * P.cellsOf e)).take (P.cellsOf e))) = some (l.map fun c => ((.lit (.int .u8 (c.toNat : Int)) : DataW H), ([] : List MemPlace))) := by
    refine mapM_each _ _ (by simp [hl]) fun k i y hi hy => ?_
    obtain ⟨hk, rfl⟩ := List.getElem?_eq_some_iff.1 hi
    have hk' : k < l.length := by simpa [hl] using hk
    obtain rfl : y = (.lit (.int .u8 (l[k].toNat : Int)), []) := by simpa [hk', eq_comm] using hy
    have : ((Lib.byteCells l).drop (k * 1)).take 1 = [.int .u8 (l[k].toNat : Int)] := by
      apply List.ext_getElem?
      intro j
      cases j with
      | zero => simp [Lib.byteCells, hk']
      | succ j => simp; omega
    rw [List.getElem_range, hc, this]
    have hlt := l[k].toNat_lt
    simp only [DataW.trod, he]
    rw [if_pos ⟨trivial, by simp [Lit.wf, IntKind.min, IntKind.max, IntKind.signed, IntKind.bits]; omega⟩]
  have hcl : (Lib.byteCells l).length = P.cellsOf t := by simp [Lib.byteCells, hl, hn]
  unfold DataW.trod
  rw [ht]
  split <;> simp_all
  · simp [byteData]
end
/-- 'post_of_same' behind a call that keeps what was there -/
theorem post_below {H : Type} {enc : TypeId × Value → H} {P : Program} {f : Func} {s : ChangeSpec} {apart fresh handsOn again : Bool} {W W' : World} {args : Array Value} {v : Value} {ds gs : List (DataW H)} {before pa pv : List MemPlace}
    (hW : DataW.Whole enc P f.params.toList s.vars apart W args.toList ds gs before)
    (hres : ∀ (b : Nat) (sp : Nat → Bool) (hd : Bool), DataW.TrodAll enc P W' b sp hd f.resultTypes.toList (v.resultList f.resultTypes.size) (s.fn H (ds ++ gs)).results [])
    (hargs : ∀ sp : Nat → Bool, (∀ p ∈ before, sp p.block = true) → DataW.TrodAll enc P W' 0 sp true f.params.toList args.toList (s.fn H (ds ++ gs)).args pa)
    (hvars : ∀ sp : Nat → Bool, (∀ p ∈ before, sp p.block = true) → DataW.TrodVars enc P W' sp s.vars (s.fn H (ds ++ gs)).vars pv)
    (hps : before = pa ++ pv) (hg : Below W.heap.size W W')
    (hok : ∀ (j : Nat) (t : TypeId) (r : Value), f.resultTypes[j]? = some t → (v.resultList f.resultTypes.size)[j]? = some r → Value.okWide P W' .any 0 t r) :
    s.post enc P f apart fresh handsOn again W args v W' := by
  have hold : ∀ p ∈ before, (fun b => decide (b < W.heap.size)) p.block = true := fun p hp => by simpa using hW.lt p hp
  refine ⟨ds, gs, before, [], pa, pv, hW, hres _ _ _, hargs _ hold, hvars _ hold, World.keptBut_mono (fun p hp => ⟨hp, ?_⟩) (hg.frame (· ∈ before)), fun _ => ?_⟩
  · rw [hps, List.mem_append] at hp
    exact Or.inr hp
  · have hlt := hW.lt
    obtain ⟨_, _, _, _, _, hz, hn⟩ := hW
    refine ⟨hok, _, _, ([] ++ pa) ++ pv, ⟨[] ++ pa, pv, trodAll_append (hargs _ (fun _ _ => rfl)) (hres _ _ _), hvars _ (fun _ _ => rfl), rfl, ?_, ?_⟩, ?_⟩
    · intro b off hp
      have hp' : MemPlace.cell b off ∈ before := by rw [hps]; simpa using hp
      rw [hg.frozen (hlt _ hp')]
      exact hz b off hp'
    · intro ha
      have := hn ha
      rw [hps] at this
      simpa using this
    · intro p hp _
      rw [hps]
      simpa using hp
/-- 'returnsInHanded_of_cond', the world's shape kept -/
theorem handed_cond_shaped {H : Type} {enc : TypeId × Value → H} {a : Assume} {C : Checked} {os : Os} {f : FuncId} {fn : Func} {s : OpenSpec} {k : (H : Type) → List (DataW H) → Bool} (hk : s.cond = some k) {F : Stop.Interp} {conds : List PathCond} {apart fresh handsOn again : Bool}
    (own : ownKnob C.prog.godebug = none) (started : os.Started) (noInit : C.prog.inits.idxOf? f = none) (hfn : C.prog.funcs[f]? = some fn)
    (witness : ∃ (w : World) (tape : Tape) (i : Input), w.os = os ∧ (w.forCall tape i).Shaped C.prog ∧ i.vars = [] ∧ Input.okWide C.prog (w.forCall tape i) .any w.heap.size f i ∧
      s.pre6 enc C.prog fn conds apart (w.forCall tape i).memory i.args ∧ a.holds C.prog (lone (Frame.enter C.prog f i.args .normal) [] (w.forCall tape i)))
    (contract : ∀ (W : World) (base : Nat) (args : Array Value) (ds gs : List (DataW H)) (before : List MemPlace),
      (∀ (j : Nat) t v, fn.params[j]? = some t → args[j]? = some v → Value.okWide C.prog W .any base t v) →
      DataW.Whole enc C.prog fn.params.toList s.vars apart W args.toList ds gs before → k H (ds ++ gs) = true → W.ShapedOpen C.prog →
      Calls C.prog f args W fun e W' => ∃ v, e = .returned v ∧ (s.at F).post enc C.prog fn apart fresh handsOn again W args v W') :
    ReturnsInHanded a C os f .any (s.pre6 enc C.prog fn conds apart) ((s.at F).post enc C.prog fn apart fresh handsOn again) := by
  refine returnsInHanded_of_calls own started noInit witness ?_
  intro w tape i _ hsh _ hok hpre _
  obtain ⟨_, _, _, fn', hfn', _, _, _, _, hval⟩ := hok
  obtain rfl : fn' = fn := Option.some.inj (hfn'.symm.trans hfn)
  obtain ⟨ds, gs, before, hw, _, hkk⟩ := (OpenSpec.pre_some hk conds apart _ _).1 hpre.1
  refine (contract (w.forCall tape i) w.heap.size i.args ds gs before hval (DataW.Whole.of_heap (w' := w.forCall tape i) (by rfl) hw) hkk hsh).mono fun e W' ⟨v, he, hp⟩ => ?_
  subst he
  exact ChangeSpec.post_blind hp
end Go.Agg
