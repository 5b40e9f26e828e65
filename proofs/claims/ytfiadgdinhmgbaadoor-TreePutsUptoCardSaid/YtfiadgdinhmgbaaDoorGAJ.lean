/- Laws of no program for slices.Insert: slices of many cells cut, grown by zeros; copies whose runs are known. (Several texts in one.) -/
import Derived.Test.YtfiadgdinhmgbaaDoorGAG
import Derived.Test.YtfiadgdinhmgbaaDoorGAH
import Derived.Test.YtfiadgdinhmgbaaDoorGAI
import Derived.Test.YtfiadgdinhmgbaaDoorGAB
import Derived.Laws.CopyRow
import Derived.Test.YtfiadgdinhmgbaaDoorGAF
import Derived.Lib.AppendZerosOnto
import Derived.Lib.Overlaps
/-! Whether trees are one: spencekit.SameNode; tree.same, Equal. -/
namespace Go.Tr
theorem bytes_msz (k : Int) (b : List UInt8) (l : List K) : b.length ≤ msz (.mk k b l) := by simp only [msz]; omega
theorem len_mszL : ∀ (l : List K), l.length ≤ mszL l
  | [] => by simp [mszL]
  | (n, t) :: l => by have := len_mszL l; simp only [List.length_cons, mszL]; omega
theorem kids_msz (k : Int) (b : List UInt8) (l : List K) : l.length ≤ msz (.mk k b l) := by have := len_mszL l; simp only [msz]; omega
theorem mem_mszL : ∀ {l : List K} {x : K}, x ∈ l → x.1.length + msz x.2 ≤ mszL l
  | (n, t) :: l, x, h => by
    rcases List.mem_cons.1 h with rfl | h
    · simp only [mszL]; omega
    · have := mem_mszL h; simp only [mszL]; omega
theorem kid_msz {k : Int} {b : List UInt8} {l : List K} {x : K} (h : x ∈ l) : msz x.2 ≤ msz (.mk k b l) := by have := mem_mszL h; simp only [msz]; omega
theorem take_snocE {l m : List K} {k : Nat} {x y : K} (hx : l[k]? = some x) (hy : m[k]? = some y) (h : l.take k = m.take k) (hxy : x = y) : l.take (k + 1) = m.take (k + 1) := by
  rw [take_succ' hx, take_succ' hy, h, hxy]
instance : DecidableEq T := fun a b => decidable_of_iff _ (same_iff a b)
theorem same_dec (t u : T) : same t u = decide (t = u) := by
  rw [Bool.eq_iff_iff, same_iff, decide_eq_true_iff]
theorem sameL_dec (l m : List K) : sameL l m = decide (l = m) := by
  rw [Bool.eq_iff_iff, sameL_iff, decide_eq_true_iff]
end Go.Tr
namespace Go.Proofs.YtfiadgdinhmgbaaDoor
open Go.RowKit Pl Go.Agg Go.Tr
theorem KdB.of {w : World} {g : Nat} {y : KdV} (h : Blk w g 51 (kdC y)) : LoadsL Tryd.prog w 9 (some ⟨g, 0, none⟩) (.string ⟨y.1.toArray⟩) ∧ LoadsL Tryd.prog w 26 (some ⟨g, 1, none⟩) (.agg (ndC y.2)) := ⟨(KdL.ofB h).name, kid_node h⟩
theorem bytesEqual_any (v u : Value) (a b : List UInt8) (w : World) (he : BytesAt w v a) (hf : BytesAt w u b) :
    Calls Tryd.prog 78 #[v, u] w fun e w' => e = .returned (.bool (decide (a = b))) ∧ Below w.heap.size w w' := by
  have HE := Lib.hid he
  have HF := Lib.hid hf
  clear he hf
  go_enter Tryd.func78, Tryd.ntmps78
  go_wp2_with (first | (with_reducible refine wpList_toStr HE.out _ rfl rfl rfl ?_) | (with_reducible refine wpList_toStr HF.out _ rfl rfl rfl ?_) | (with_reducible refine wpList_eqlS rfl rfl rfl rfl _ rfl ?_))
  go_ret
  exact ⟨rfl, Below.refl _ _⟩

def snC (N : Nat) : Prop := ∀ (t u : T) (_ : count t ≤ N) (_ : msz t ≤ 1048576) (_ : msz u ≤ 1048576) (v1 v2 : Value) (w : World) (_ : NodeAt w v1 t) (_ : NodeAt w v2 u),
    Calls Tryd.prog 16 #[v1, v2] w fun e w' => e = .returned (.bool (same t u)) ∧ Below w.heap.size w w'

set_option maxRecDepth 100000 in
set_option maxHeartbeats 4000000 in
theorem snKid_any {N : Nat} (ih : snC N) (a b : K) (hc : count a.2 ≤ N) (h1 : msz a.2 ≤ 1048576) (h2 : msz b.2 ≤ 1048576) (x y : KdV) (w : World) (hx1 : x.1 = a.1) (hx2 : NodeV w x.2 a.2) (hy1 : y.1 = b.1) (hy2 : NodeV w y.2 b.2) :
    Calls Tryd.prog 71 #[.agg (kdC x), .agg (kdC y)] w fun e w' => e = .returned (.bool (decide (a = b))) ∧ Below w.heap.size w w' := by
  have HIH := Lib.hid ih
  have HX := Lib.hid hx2
  have HY := Lib.hid hy2
  have HN := Lib.hid (And.intro hx1 hy1)
  clear ih hx2 hy2 hx1 hy1
  go_enter Tryd.func71, Tryd.ntmps71
  by_cases hn : a.1 = b.1
  · have HS := Lib.hid (show decide (x.1 = y.1) = true by rw [HN.out.1, HN.out.2]; simpa using hn)
    have HR := Lib.hid (show decide (a = b) = same a.2 b.2 by
      rw [same_dec]
      obtain ⟨n, t⟩ := a; obtain ⟨m, u⟩ := b
      have hn : n = m := hn
      simp [hn])
    clear hn
    go_wp2_with (first | (refine Agg.wpList_box rfl 51 _ rfl (kdC x) rfl ?_; intro g2 w1 hb hx hg; have HB1 := Lib.hid hb; have HX1 := Lib.hid hx; clear hb hx hg) | (refine Agg.wpList_box rfl 51 _ rfl (kdC y) rfl ?_; intro g3 w2 hb hx hg; have HB2 := Lib.hid (HB1.out.below hx); have HC2 := Lib.hid hb; have HX2 := Lib.hid (Agg.belowThen HX1.out (Nat.le_refl _) hx); clear hb hx hg) | (with_reducible refine Agg.wpList_loadL (KdB.of HB2.out).1 rfl _ rfl rfl ?_) | (with_reducible refine Agg.wpList_loadL (KdB.of HC2.out).1 rfl _ rfl rfl ?_) | (with_reducible refine Agg.wpList_loadL (KdB.of HB2.out).2 rfl _ rfl rfl ?_) | (with_reducible refine Agg.wpList_loadL (KdB.of HC2.out).2 rfl _ rfl rfl ?_) | (with_reducible refine wpList_eqlS rfl rfl rfl rfl true HS.out ?_))
    refine (HIH.out a.2 b.2 hc h1 h2 (.agg (ndC x.2)) (.agg (ndC y.2)) w2 ⟨_, rfl, HX.out.below HX2.out⟩ ⟨_, rfl, HY.out.below HX2.out⟩).mono ?_
    rintro e w3 ⟨rfl, hx⟩
    have HX3 := Lib.hid (Agg.belowThen HX2.out (Nat.le_refl _) hx)
    clear hx
    go_wp2_with fail
    go_ret
    exact ⟨ret_bool HR.out.symm, HX3.out⟩
  · have HS := Lib.hid (show decide (x.1 = y.1) = false by rw [HN.out.1, HN.out.2]; simpa using hn)
    have HR := Lib.hid (show decide (a = b) = false by simp; intro e; exact hn (by rw [e]))
    clear hn
    go_wp2_with (first | (refine Agg.wpList_box rfl 51 _ rfl (kdC x) rfl ?_; intro g2 w1 hb hx hg; have HB1 := Lib.hid hb; have HX1 := Lib.hid hx; clear hb hx hg) | (refine Agg.wpList_box rfl 51 _ rfl (kdC y) rfl ?_; intro g3 w2 hb hx hg; have HB2 := Lib.hid (HB1.out.below hx); have HC2 := Lib.hid hb; have HX2 := Lib.hid (Agg.belowThen HX1.out (Nat.le_refl _) hx); clear hb hx hg) | (with_reducible refine Agg.wpList_loadL (KdB.of HB2.out).1 rfl _ rfl rfl ?_) | (with_reducible refine Agg.wpList_loadL (KdB.of HC2.out).1 rfl _ rfl rfl ?_) | (with_reducible refine wpList_eqlS rfl rfl rfl rfl false HS.out ?_))
    go_ret
    exact ⟨ret_bool HR.out.symm, HX2.out⟩

set_option maxRecDepth 100000 in
set_option maxHeartbeats 8000000 in
theorem snKids_any {N : Nat} (ih : snC N) (l m : List K) (hc : ∀ x ∈ l, count x.2 ≤ N) (h1 : mszL l ≤ 1048576) (h2 : mszL m ≤ 1048576) (ks js : List KdV) (v1 v2 : Value) (w : World) (hs1 : SliceOf EK w v1 ks) (hk1 : KidsV w ks l) (hs2 : SliceOf EK w v2 js) (hk2 : KidsV w js m) :
    Calls Tryd.prog 45 #[v1, v2] w fun e w' => e = .returned (.bool (sameL l m)) ∧ Below w.heap.size w w' := by
  have hl1 := hk1.len
  have hl2 := hk2.len
  have hlen1 := kds_len hs1
  have hlen2 := kds_len hs2
  rw [hl1] at hlen1
  rw [hl2] at hlen2
  have hb1 := Nat.le_trans (len_mszL l) h1
  have hb2 := Nat.le_trans (len_mszL m) h2
  have HIH := Lib.hid ih
  have HS1 := Lib.hid hs1
  have HS2 := Lib.hid hs2
  have HK1 := Lib.hid hk1
  have HK2 := Lib.hid hk2
  have HC := Lib.hid hc
  clear ih hs1 hs2 hk1 hk2 hl1 hl2 hc
  by_cases hlen : l.length = m.length
  · have hne : ((l.length : Int) != (m.length : Int)) = false := by simp [hlen]
    have HLEN := Lib.hid hlen
    clear hlen
    go_enter Tryd.func45, Tryd.ntmps45
    go_wp2_with fail
    go_loopw [5] (fun i wr => ∃ k : Nat, k ≤ l.length ∧ i = .int .i64 (k : Int) ∧ l.take k = m.take k ∧ Below w.heap.size w wr) (fun i _ => l.length - (intOf i).toNat)
    case atStart => exact ⟨0, by omega, rfl, rfl, Below.refl _ _⟩
    case round =>
      obtain ⟨w1, rfl⟩ : ∃ w1 : World, w1 = wr := ⟨_, rfl⟩
      obtain ⟨k, hk, rfl, htk, hw⟩ := hrel
      have HTK := Lib.hid htk
      have HW := Lib.hid hw
      clear htk hw
      by_cases hlt : k < l.length
      · have hd : decide ((k : Int) < (l.length : Int)) = true := by simp; omega
        obtain ⟨a, hak⟩ : ∃ a, l[k]? = some a := ⟨_, List.getElem?_eq_getElem hlt⟩
        obtain ⟨b, hbk⟩ : ∃ b, m[k]? = some b := ⟨_, List.getElem?_eq_getElem (by rw [← HLEN.out]; exact hlt)⟩
        obtain ⟨x, hxk, hx1, hx2⟩ := HK1.out.at_ k a hak
        obtain ⟨y, hyk, hy1, hy2⟩ := HK2.out.at_ k b hbk
        obtain ⟨p, hadr, hle⟩ := kid_at (HS1.out.below HW.out) k x hxk
        obtain ⟨q, hadq, hlq⟩ := kid_at (HS2.out.below HW.out) k y hyk
        have HE := Lib.hid hle.all
        have HQ := Lib.hid hlq.all
        obtain ⟨r, hr⟩ : ∃ r, decide (a = b) = r := ⟨_, rfl⟩
        have HCALL := Lib.hid (fun z : Later w1 => (show Calls Tryd.prog 71 #[.agg (kdC x), .agg (kdC y)] z.w fun e w' => e = .returned (.bool r) ∧ Below z.w.heap.size z.w w' by
          have hZ := Agg.belowThen HW.out (Nat.le_refl _) z.h
          rw [← hr]; exact snKid_any HIH.out a b (HC.out a (List.mem_of_getElem? hak)) (by have := mem_mszL (List.mem_of_getElem? hak); omega) (by have := mem_mszL (List.mem_of_getElem? hbk); omega) x y z.w hx1 (hx2.below hZ) hy1 (hy2.below hZ)))
        have HRR := Lib.hid hr
        have HAK := Lib.hid hak
        have HBK := Lib.hid hbk
        clear hle hlq hxk hyk hx1 hx2 hy1 hy2 hr hak hbk
        go_wp2_with fail
        try simp only [Act.put, List.setIfInBounds_toArray, List.set_cons_succ, List.set_cons_zero]
        refine Agg.wp_region_later_lit (by kernel_rfl) (by kernel_rfl) ?_
        repeat (first | go_big_quiet_skip | ((first | (with_reducible refine Agg.wpQuiet_loadL HE.out rfl _ rfl rfl ?_) | (with_reducible refine Agg.wpQuiet_loadL HQ.out rfl _ rfl rfl ?_)); simp only [Act.put, List.setIfInBounds_toArray, List.set_cons_succ, List.set_cons_zero]) | go_big_quiet_step (first | (go_at_call 71; first | (with_reducible exact Agg.Calls.later (HCALL.out _)))))
        refine wpQuiet_nil ?_
        intro _ hw'
        obtain ⟨x4, rfl⟩ := hw'
        have HX4 := Lib.hid (Agg.belowThen HW.out (Nat.le_refl _) x4.h)
        cases r with
        | false =>
          have HF := Lib.hid (show sameL l m = false by
            rw [sameL_dec, decide_eq_false_iff_not]
            rintro rfl
            have h := HRR.out
            rw [decide_eq_false_iff_not] at h
            exact h (Option.some.inj (HAK.out.symm.trans HBK.out)))
          go_wp2_with fail
          go_ret
          exact ⟨ret_bool HF.out.symm, HX4.out⟩
        | true =>
          have HT := Lib.hid (take_snocE HAK.out HBK.out HTK.out (of_decide_eq_true HRR.out))
          go_wp2_with fail
          go_roundw
          case rel => exact ⟨k + 1, by omega, by go_num, HT.out, HX4.out⟩
          case measure => simp [intOf]; omega
      · obtain rfl : k = l.length := by omega
        have hd : decide (((l.length : Nat) : Int) < ((l.length : Nat) : Int)) = false := by simp
        have HT := Lib.hid (show sameL l m = true by
          have h := HTK.out
          rw [List.take_length, HLEN.out, List.take_length] at h
          rw [sameL_dec, h]; simp)
        go_wp2_with fail
        go_ret
        exact ⟨ret_bool HT.out.symm, HW.out⟩
  · have hne : ((l.length : Int) != (m.length : Int)) = true := by simp; omega
    have HF := Lib.hid (show sameL l m = false by
      rw [sameL_dec, decide_eq_false_iff_not]
      exact fun e => hlen (by rw [e]))
    clear hlen
    go_enter Tryd.func45, Tryd.ntmps45
    go_wp2_with fail
    go_ret
    exact ⟨ret_bool HF.out.symm, Below.refl _ _⟩

set_option maxRecDepth 100000 in
set_option maxHeartbeats 8000000 in
theorem sn_all : ∀ N, snC N := by
  intro N
  induction N with
  | zero => intro t u h; have := count_pos t; omega
  | succ N ih =>
  intro t u hc h1 h2 v1 v2 w hv1 hv2
  obtain ⟨x, rfl, hx⟩ := hv1
  obtain ⟨y, rfl, hy⟩ := hv2
  obtain ⟨k, a, l⟩ := t
  obtain ⟨j, b, m⟩ := u
  obtain ⟨hxk, hxb, ks, hxs, hxl⟩ := hx
  obtain ⟨hyk, hyb, js, hys, hyl⟩ := hy
  have HXB := Lib.hid hxb
  have HYB := Lib.hid hyb
  have HXS := Lib.hid hxs
  have HYS := Lib.hid hys
  have HXL := Lib.hid hxl
  have HYL := Lib.hid hyl
  have HIH := Lib.hid ih
  have HC := Lib.hid (show ∀ z ∈ l, count z.2 ≤ N from fun z hz => by
    have h3 := countL_mem hz
    simp only [count] at hc
    omega)
  have hab := Nat.le_trans (bytes_msz k a l) h1
  have hbb := Nat.le_trans (bytes_msz j b m) h2
  have hlm1 : mszL l ≤ 1048576 := by simp only [msz] at h1; omega
  have hlm2 : mszL m ≤ 1048576 := by simp only [msz] at h2; omega
  have HK := Lib.hid (And.intro hxk hyk)
  clear hxb hyb hxs hys hxl hyl ih hc hxk hyk
  go_enter Tryd.func16, Tryd.ntmps16
  by_cases hk : x.1 = y.1
  · have hke : (x.1 == y.1) = true := by rw [hk]; simp
    have HKK := Lib.hid (show k = j by rw [← HK.out.1, ← HK.out.2, hk])
    clear hk
    go_wp2_with (first | (refine Agg.wpList_box rfl 26 _ rfl (ndC x) rfl ?_; intro g2 w1 hb hx hg; have HB1 := Lib.hid hb; have HX1 := Lib.hid hx; clear hb hx hg) | (refine Agg.wpList_box rfl 26 _ rfl (ndC y) rfl ?_; intro g3 w2 hb hx hg; have HB2 := Lib.hid (HB1.out.below hx); have HC2 := Lib.hid hb; have HX2 := Lib.hid (Agg.belowThen HX1.out (Nat.le_refl _) hx); clear hb hx hg) | (with_reducible refine Agg.wpList_loadL (NdL.of_blk HB2.out).kind rfl _ rfl rfl ?_) | (with_reducible refine Agg.wpList_loadL (NdL.of_blk HC2.out).kind rfl _ rfl rfl ?_) | (with_reducible refine Agg.wpList_loadL (NdL.of_blk HB2.out).bytes rfl _ rfl rfl ?_) | (with_reducible refine Agg.wpList_loadL (NdL.of_blk HC2.out).bytes rfl _ rfl rfl ?_))
    refine (sameBytes_any x.2.1.1 y.2.1.1 a b hab hbb w2 (HXB.out.below HX2.out) (HYB.out.below HX2.out)).mono ?_
    rintro e w3 ⟨rfl, hx⟩
    have HB3 := Lib.hid (HB2.out.below hx)
    have HC3 := Lib.hid (HC2.out.below hx)
    have HX3 := Lib.hid (Agg.belowThen HX2.out (Nat.le_refl _) hx)
    clear hx
    by_cases hab2 : a = b
    · have hd : decide (a = b) = true := by simpa using hab2
      have HAB := Lib.hid hab2
      clear hab2
      rw [hd]
      go_wp2_with (first | (with_reducible refine Agg.wpList_loadL (NdL.of_blk HB3.out).kids rfl _ rfl rfl ?_) | (with_reducible refine Agg.wpList_loadL (NdL.of_blk HC3.out).kids rfl _ rfl rfl ?_))
      refine (snKids_any HIH.out l m HC.out hlm1 hlm2 ks js x.2.2.1 y.2.2.1 w3 (HXS.out.below HX3.out) (HXL.out.below HX3.out) (HYS.out.below HX3.out) (HYL.out.below HX3.out)).mono ?_
      rintro e w4 ⟨rfl, hx⟩
      have HX4 := Lib.hid (Agg.belowThen HX3.out (Nat.le_refl _) hx)
      have HR := Lib.hid (show same (.mk k a l) (.mk j b m) = sameL l m by simp [same, HKK.out, HAB.out])
      clear hx
      go_wp2_with fail
      go_ret
      exact ⟨ret_bool HR.out.symm, HX4.out⟩
    · have hd : decide (a = b) = false := by simpa using hab2
      have HR := Lib.hid (show same (.mk k a l) (.mk j b m) = false by simp [same, hab2])
      clear hab2
      rw [hd]
      go_wp2_with fail
      go_ret
      exact ⟨ret_bool HR.out.symm, HX3.out⟩
  · have hke : (x.1 == y.1) = false := by simpa using hk
    have HR := Lib.hid (show same (.mk k a l) (.mk j b m) = false by
      have : ¬ k = j := fun e => hk (by rw [HK.out.1, HK.out.2, e])
      simp [same, this])
    clear hk
    go_wp2_with (first | (refine Agg.wpList_box rfl 26 _ rfl (ndC x) rfl ?_; intro g2 w1 hb hx hg; have HB1 := Lib.hid hb; have HX1 := Lib.hid hx; clear hb hx hg) | (refine Agg.wpList_box rfl 26 _ rfl (ndC y) rfl ?_; intro g3 w2 hb hx hg; have HB2 := Lib.hid (HB1.out.below hx); have HC2 := Lib.hid hb; have HX2 := Lib.hid (Agg.belowThen HX1.out (Nat.le_refl _) hx); clear hb hx hg) | (with_reducible refine Agg.wpList_loadL (NdL.of_blk HB2.out).kind rfl _ rfl rfl ?_) | (with_reducible refine Agg.wpList_loadL (NdL.of_blk HC2.out).kind rfl _ rfl rfl ?_) | (with_reducible refine Agg.wpList_loadL (NdL.of_blk HB2.out).bytes rfl _ rfl rfl ?_) | (with_reducible refine Agg.wpList_loadL (NdL.of_blk HC2.out).bytes rfl _ rfl rfl ?_))
    go_ret
    exact ⟨ret_bool HR.out.symm, HX2.out⟩

def tsC (N : Nat) : Prop := ∀ (t u : T) (_ : count t ≤ N) (_ : msz t ≤ 1048576) (_ : msz u ≤ 1048576) (v1 v2 : Value) (w : World) (_ : NodeAt w v1 t) (_ : NodeAt w v2 u),
    Calls Tryd.prog 52 #[v1, v2] w fun e w' => e = .returned (.bool (same t u)) ∧ Below w.heap.size w w'

set_option maxRecDepth 100000 in
set_option maxHeartbeats 4000000 in
theorem tsKid_any {N : Nat} (ih : tsC N) (a b : K) (hc : count a.2 ≤ N) (h1 : msz a.2 ≤ 1048576) (h2 : msz b.2 ≤ 1048576) (x y : KdV) (w : World) (hx1 : x.1 = a.1) (hx2 : NodeV w x.2 a.2) (hy1 : y.1 = b.1) (hy2 : NodeV w y.2 b.2) :
    Calls Tryd.prog 80 #[.agg (kdC x), .agg (kdC y)] w fun e w' => e = .returned (.bool (decide (a = b))) ∧ Below w.heap.size w w' := by
  have HIH := Lib.hid ih
  have HX := Lib.hid hx2
  have HY := Lib.hid hy2
  have HN := Lib.hid (And.intro hx1 hy1)
  clear ih hx2 hy2 hx1 hy1
  go_enter Tryd.func80, Tryd.ntmps80
  by_cases hn : a.1 = b.1
  · have HS := Lib.hid (show decide (x.1 = y.1) = true by rw [HN.out.1, HN.out.2]; simpa using hn)
    have HR := Lib.hid (show decide (a = b) = same a.2 b.2 by
      rw [same_dec]
      obtain ⟨n, t⟩ := a; obtain ⟨m, u⟩ := b
      have hn : n = m := hn
      simp [hn])
    clear hn
    go_wp2_with (first | (refine Agg.wpList_box rfl 51 _ rfl (kdC x) rfl ?_; intro g2 w1 hb hx hg; have HB1 := Lib.hid hb; have HX1 := Lib.hid hx; clear hb hx hg) | (refine Agg.wpList_box rfl 51 _ rfl (kdC y) rfl ?_; intro g3 w2 hb hx hg; have HB2 := Lib.hid (HB1.out.below hx); have HC2 := Lib.hid hb; have HX2 := Lib.hid (Agg.belowThen HX1.out (Nat.le_refl _) hx); clear hb hx hg) | (with_reducible refine Agg.wpList_loadL (KdB.of HB2.out).1 rfl _ rfl rfl ?_) | (with_reducible refine Agg.wpList_loadL (KdB.of HC2.out).1 rfl _ rfl rfl ?_) | (with_reducible refine Agg.wpList_loadL (KdB.of HB2.out).2 rfl _ rfl rfl ?_) | (with_reducible refine Agg.wpList_loadL (KdB.of HC2.out).2 rfl _ rfl rfl ?_) | (with_reducible refine wpList_eqlS rfl rfl rfl rfl true HS.out ?_))
    refine (HIH.out a.2 b.2 hc h1 h2 (.agg (ndC x.2)) (.agg (ndC y.2)) w2 ⟨_, rfl, HX.out.below HX2.out⟩ ⟨_, rfl, HY.out.below HX2.out⟩).mono ?_
    rintro e w3 ⟨rfl, hx⟩
    have HX3 := Lib.hid (Agg.belowThen HX2.out (Nat.le_refl _) hx)
    clear hx
    go_wp2_with fail
    go_ret
    exact ⟨ret_bool HR.out.symm, HX3.out⟩
  · have HS := Lib.hid (show decide (x.1 = y.1) = false by rw [HN.out.1, HN.out.2]; simpa using hn)
    have HR := Lib.hid (show decide (a = b) = false by simp; intro e; exact hn (by rw [e]))
    clear hn
    go_wp2_with (first | (refine Agg.wpList_box rfl 51 _ rfl (kdC x) rfl ?_; intro g2 w1 hb hx hg; have HB1 := Lib.hid hb; have HX1 := Lib.hid hx; clear hb hx hg) | (refine Agg.wpList_box rfl 51 _ rfl (kdC y) rfl ?_; intro g3 w2 hb hx hg; have HB2 := Lib.hid (HB1.out.below hx); have HC2 := Lib.hid hb; have HX2 := Lib.hid (Agg.belowThen HX1.out (Nat.le_refl _) hx); clear hb hx hg) | (with_reducible refine Agg.wpList_loadL (KdB.of HB2.out).1 rfl _ rfl rfl ?_) | (with_reducible refine Agg.wpList_loadL (KdB.of HC2.out).1 rfl _ rfl rfl ?_) | (with_reducible refine wpList_eqlS rfl rfl rfl rfl false HS.out ?_))
    go_ret
    exact ⟨ret_bool HR.out.symm, HX2.out⟩

set_option maxRecDepth 100000 in
set_option maxHeartbeats 8000000 in
theorem tsKids_any {N : Nat} (ih : tsC N) (l m : List K) (hc : ∀ x ∈ l, count x.2 ≤ N) (h1 : mszL l ≤ 1048576) (h2 : mszL m ≤ 1048576) (ks js : List KdV) (v1 v2 : Value) (w : World) (hs1 : SliceOf EK w v1 ks) (hk1 : KidsV w ks l) (hs2 : SliceOf EK w v2 js) (hk2 : KidsV w js m) :
    Calls Tryd.prog 79 #[v1, v2, .func (.func 80) #[] #[]] w fun e w' => e = .returned (.bool (sameL l m)) ∧ Below w.heap.size w w' := by
  have hl1 := hk1.len
  have hl2 := hk2.len
  have hlen1 := kds_len hs1
  have hlen2 := kds_len hs2
  rw [hl1] at hlen1
  rw [hl2] at hlen2
  have hb1 := Nat.le_trans (len_mszL l) h1
  have hb2 := Nat.le_trans (len_mszL m) h2
  have HIH := Lib.hid ih
  have HS1 := Lib.hid hs1
  have HS2 := Lib.hid hs2
  have HK1 := Lib.hid hk1
  have HK2 := Lib.hid hk2
  have HC := Lib.hid hc
  clear ih hs1 hs2 hk1 hk2 hl1 hl2 hc
  by_cases hlen : l.length = m.length
  · have hne : ((l.length : Int) != (m.length : Int)) = false := by simp [hlen]
    have HLEN := Lib.hid hlen
    clear hlen
    go_enter Tryd.func79, Tryd.ntmps79
    go_wp2_with fail
    go_loopw [17] (fun i wr => ∃ k : Nat, k ≤ l.length ∧ i = .int .i64 (k : Int) ∧ l.take k = m.take k ∧ Below w.heap.size w wr) (fun i _ => l.length - (intOf i).toNat)
    case atStart => exact ⟨0, by omega, rfl, rfl, Below.refl _ _⟩
    case round =>
      obtain ⟨w1, rfl⟩ : ∃ w1 : World, w1 = wr := ⟨_, rfl⟩
      obtain ⟨k, hk, rfl, htk, hw⟩ := hrel
      have HTK := Lib.hid htk
      have HW := Lib.hid hw
      clear htk hw
      by_cases hlt : k < l.length
      · have hd : decide ((k : Int) < (l.length : Int)) = true := by simp; omega
        obtain ⟨a, hak⟩ : ∃ a, l[k]? = some a := ⟨_, List.getElem?_eq_getElem hlt⟩
        obtain ⟨b, hbk⟩ : ∃ b, m[k]? = some b := ⟨_, List.getElem?_eq_getElem (by rw [← HLEN.out]; exact hlt)⟩
        obtain ⟨x, hxk, hx1, hx2⟩ := HK1.out.at_ k a hak
        obtain ⟨y, hyk, hy1, hy2⟩ := HK2.out.at_ k b hbk
        obtain ⟨p, hadr, hle⟩ := kid_at (HS1.out.below HW.out) k x hxk
        obtain ⟨q, hadq, hlq⟩ := kid_at (HS2.out.below HW.out) k y hyk
        have HE := Lib.hid hle.all
        have HQ := Lib.hid hlq.all
        obtain ⟨r, hr⟩ : ∃ r, decide (a = b) = r := ⟨_, rfl⟩
        have HCALL := Lib.hid (fun z : Later w1 => (show Calls Tryd.prog 80 #[.agg (kdC x), .agg (kdC y)] z.w fun e w' => e = .returned (.bool r) ∧ Below z.w.heap.size z.w w' by
          have hZ := Agg.belowThen HW.out (Nat.le_refl _) z.h
          rw [← hr]; exact tsKid_any HIH.out a b (HC.out a (List.mem_of_getElem? hak)) (by have := mem_mszL (List.mem_of_getElem? hak); omega) (by have := mem_mszL (List.mem_of_getElem? hbk); omega) x y z.w hx1 (hx2.below hZ) hy1 (hy2.below hZ)))
        have HRR := Lib.hid hr
        have HAK := Lib.hid hak
        have HBK := Lib.hid hbk
        clear hle hlq hxk hyk hx1 hx2 hy1 hy2 hr hak hbk
        go_wp2_with (first | (with_reducible refine Agg.wpList_loadL HE.out rfl _ rfl rfl ?_) | (refine Agg.wpList_zero rfl 51 rfl (kdC kdZ) kd_zero ?_; intro g8 wz hb hx hg; have HKZ := Lib.hid hb; have HXZ := Lib.hid hx; have HEz := Lib.hid (HE.out.below hx); have HQz := Lib.hid (HQ.out.below hx); have HG8 := Lib.hid hg; clear hb hx hg) | (refine Agg.wpList_put rfl rfl 51 _ _ rfl g8 (kdC x) (kdC kdZ) rfl rfl HKZ.out (kd_info x) rfl (kdC_one x) ?_; intro w2 hb hx hs hk; have HX8 := Lib.hid (show Below w1.heap.size w1 w2 from HXZ.out.trans (hx.mono HG8.out)); have HK8 := Lib.hid hb; clear hb hx hs hk) | (with_reducible refine Agg.wpList_loadL (HQ.out.below HX8.out) rfl _ rfl rfl ?_) | (refine Agg.wpList_new rfl rfl rfl 51 9 25 rfl rfl rfl (by decide) (kdC kdZ) (kdC y) kd_zero rfl (kd_info y) (kdC_one y) rfl (by first | (simp; done) | simp [Act.put]) ?_; intro g9 w3 hb hx hg; have HK9 := Lib.hid hb; have HKa := Lib.hid (HK8.out.below hx); have HX9 := Lib.hid (Agg.belowThen HX8.out (Nat.le_refl _) hx); have HLx := Lib.hid (Blk.loads (P := Tryd.prog) HKa.out kd_under rfl (kd_info x)); have HLy := Lib.hid (Blk.loads (P := Tryd.prog) HK9.out kd_under rfl (kd_info y)); clear hb hx hg) | (with_reducible refine Agg.wpList_loadL HLx.out rfl _ rfl rfl ?_) | (with_reducible refine Agg.wpList_loadL HLy.out rfl _ rfl rfl ?_))
        have HCL := Lib.hid (fun z : Later w3 => HCALL.out ⟨z.w, Agg.belowThen HX9.out (Nat.le_refl _) z.h⟩)
        refine (HCL.out (Later.mk' w3)).mono ?_
        rintro e w4 ⟨rfl, hx⟩
        have HX4 := Lib.hid (Agg.belowThen HW.out (Nat.le_refl _) (Agg.belowThen HX9.out (Nat.le_refl _) hx))
        clear hx
        cases r with
        | false =>
          have HF := Lib.hid (show sameL l m = false by
            rw [sameL_dec, decide_eq_false_iff_not]
            rintro rfl
            have h := HRR.out
            rw [decide_eq_false_iff_not] at h
            exact h (Option.some.inj (HAK.out.symm.trans HBK.out)))
          go_wp2_with fail
          go_ret
          exact ⟨ret_bool HF.out.symm, HX4.out⟩
        | true =>
          have HT := Lib.hid (take_snocE HAK.out HBK.out HTK.out (of_decide_eq_true HRR.out))
          go_wp2_with fail
          go_roundw
          case rel => exact ⟨k + 1, by omega, by go_num, HT.out, HX4.out⟩
          case measure => simp [intOf]; omega
      · obtain rfl : k = l.length := by omega
        have hd : decide (((l.length : Nat) : Int) < ((l.length : Nat) : Int)) = false := by simp
        have HT := Lib.hid (show sameL l m = true by
          have h := HTK.out
          rw [List.take_length, HLEN.out, List.take_length] at h
          rw [sameL_dec, h]; simp)
        go_wp2_with fail
        go_ret
        exact ⟨ret_bool HT.out.symm, HW.out⟩
  · have hne : ((l.length : Int) != (m.length : Int)) = true := by simp; omega
    have HF := Lib.hid (show sameL l m = false by
      rw [sameL_dec, decide_eq_false_iff_not]
      exact fun e => hlen (by rw [e]))
    clear hlen
    go_enter Tryd.func79, Tryd.ntmps79
    go_wp2_with fail
    go_ret
    exact ⟨ret_bool HF.out.symm, Below.refl _ _⟩

set_option maxRecDepth 100000 in
set_option maxHeartbeats 8000000 in
theorem ts_all : ∀ N, tsC N := by
  intro N
  induction N with
  | zero => intro t u h; have := count_pos t; omega
  | succ N ih =>
  intro t u hc h1 h2 v1 v2 w hv1 hv2
  obtain ⟨x, rfl, hx⟩ := hv1
  obtain ⟨y, rfl, hy⟩ := hv2
  obtain ⟨k, a, l⟩ := t
  obtain ⟨j, b, m⟩ := u
  obtain ⟨hxk, hxb, ks, hxs, hxl⟩ := hx
  obtain ⟨hyk, hyb, js, hys, hyl⟩ := hy
  have HXB := Lib.hid hxb
  have HYB := Lib.hid hyb
  have HXS := Lib.hid hxs
  have HYS := Lib.hid hys
  have HXL := Lib.hid hxl
  have HYL := Lib.hid hyl
  have HIH := Lib.hid ih
  have HC := Lib.hid (show ∀ z ∈ l, count z.2 ≤ N from fun z hz => by
    have h3 := countL_mem hz
    simp only [count] at hc
    omega)
  have hab := Nat.le_trans (bytes_msz k a l) h1
  have hbb := Nat.le_trans (bytes_msz j b m) h2
  have hlm1 : mszL l ≤ 1048576 := by simp only [msz] at h1; omega
  have hlm2 : mszL m ≤ 1048576 := by simp only [msz] at h2; omega
  have HK := Lib.hid (And.intro hxk hyk)
  clear hxb hyb hxs hys hxl hyl ih hc hxk hyk
  go_enter Tryd.func52, Tryd.ntmps52
  by_cases hk : x.1 = y.1
  · have hke : (x.1 == y.1) = true := by rw [hk]; simp
    have HKK := Lib.hid (show k = j by rw [← HK.out.1, ← HK.out.2, hk])
    clear hk
    go_wp2_with (first | (refine Agg.wpList_box rfl 26 _ rfl (ndC x) rfl ?_; intro g2 w1 hb hx hg; have HB1 := Lib.hid hb; have HX1 := Lib.hid hx; clear hb hx hg) | (refine Agg.wpList_box rfl 26 _ rfl (ndC y) rfl ?_; intro g3 w2 hb hx hg; have HB2 := Lib.hid (HB1.out.below hx); have HC2 := Lib.hid hb; have HX2 := Lib.hid (Agg.belowThen HX1.out (Nat.le_refl _) hx); clear hb hx hg) | (with_reducible refine Agg.wpList_loadL (NdL.of_blk HB2.out).kind rfl _ rfl rfl ?_) | (with_reducible refine Agg.wpList_loadL (NdL.of_blk HC2.out).kind rfl _ rfl rfl ?_) | (with_reducible refine Agg.wpList_loadL (NdL.of_blk HB2.out).bytes rfl _ rfl rfl ?_) | (with_reducible refine Agg.wpList_loadL (NdL.of_blk HC2.out).bytes rfl _ rfl rfl ?_))
    refine (bytesEqual_any x.2.1.1 y.2.1.1 a b w2 (HXB.out.below HX2.out) (HYB.out.below HX2.out)).mono ?_
    rintro e w3 ⟨rfl, hx⟩
    have HB3 := Lib.hid (HB2.out.below hx)
    have HC3 := Lib.hid (HC2.out.below hx)
    have HX3 := Lib.hid (Agg.belowThen HX2.out (Nat.le_refl _) hx)
    clear hx
    by_cases hab2 : a = b
    · have hd : decide (a = b) = true := by simpa using hab2
      have HAB := Lib.hid hab2
      clear hab2
      rw [hd]
      go_wp2_with (first | (with_reducible refine Agg.wpList_loadL (NdL.of_blk HB3.out).kids rfl _ rfl rfl ?_) | (with_reducible refine Agg.wpList_loadL (NdL.of_blk HC3.out).kids rfl _ rfl rfl ?_))
      refine (tsKids_any HIH.out l m HC.out hlm1 hlm2 ks js x.2.2.1 y.2.2.1 w3 (HXS.out.below HX3.out) (HXL.out.below HX3.out) (HYS.out.below HX3.out) (HYL.out.below HX3.out)).mono ?_
      rintro e w4 ⟨rfl, hx⟩
      have HX4 := Lib.hid (Agg.belowThen HX3.out (Nat.le_refl _) hx)
      have HR := Lib.hid (show same (.mk k a l) (.mk j b m) = sameL l m by simp [same, HKK.out, HAB.out])
      clear hx
      go_wp2_with fail
      go_ret
      exact ⟨ret_bool HR.out.symm, HX4.out⟩
    · have hd : decide (a = b) = false := by simpa using hab2
      have HR := Lib.hid (show same (.mk k a l) (.mk j b m) = false by simp [same, hab2])
      clear hab2
      rw [hd]
      go_wp2_with fail
      go_ret
      exact ⟨ret_bool HR.out.symm, HX3.out⟩
  · have hke : (x.1 == y.1) = false := by simpa using hk
    have HR := Lib.hid (show same (.mk k a l) (.mk j b m) = false by
      have : ¬ k = j := fun e => hk (by rw [HK.out.1, HK.out.2, e])
      simp [same, this])
    clear hk
    go_wp2_with (first | (refine Agg.wpList_box rfl 26 _ rfl (ndC x) rfl ?_; intro g2 w1 hb hx hg; have HB1 := Lib.hid hb; have HX1 := Lib.hid hx; clear hb hx hg) | (refine Agg.wpList_box rfl 26 _ rfl (ndC y) rfl ?_; intro g3 w2 hb hx hg; have HB2 := Lib.hid (HB1.out.below hx); have HC2 := Lib.hid hb; have HX2 := Lib.hid (Agg.belowThen HX1.out (Nat.le_refl _) hx); clear hb hx hg) | (with_reducible refine Agg.wpList_loadL (NdL.of_blk HB2.out).kind rfl _ rfl rfl ?_) | (with_reducible refine Agg.wpList_loadL (NdL.of_blk HC2.out).kind rfl _ rfl rfl ?_) | (with_reducible refine Agg.wpList_loadL (NdL.of_blk HB2.out).bytes rfl _ rfl rfl ?_) | (with_reducible refine Agg.wpList_loadL (NdL.of_blk HC2.out).bytes rfl _ rfl rfl ?_))
    go_ret
    exact ⟨ret_bool HR.out.symm, HX2.out⟩

theorem sameNode_any (t u : T) (h1 : msz t ≤ 1048576) (h2 : msz u ≤ 1048576) (v1 v2 : Value) (w : World) (hv1 : NodeAt w v1 t) (hv2 : NodeAt w v2 u) :
    Calls Tryd.prog 16 #[v1, v2] w fun e w' => e = .returned (.bool (same t u)) ∧ Below w.heap.size w w' := sn_all (count t) t u (Nat.le_refl _) h1 h2 v1 v2 w hv1 hv2
theorem right_msz {t : T} (h : right t = true) : msz t ≤ 500000 := by
  have key : ∀ (N : Nat) (t : T), count t ≤ N → ok t = true → msz t + 25 ≤ 2100 * count t := by
    intro N
    induction N with
    | zero => intro t h; have := count_pos t; omega
    | succ N ih =>
      intro t hc hok
      obtain ⟨k, b, l⟩ := t
      have ha : alone (.mk k b l) = true := by simp only [ok, Bool.and_eq_true] at hok; exact hok.1
      have hk := kids_ok hok
      rw [show (T.mk k b l).kids = l from rfl] at hk
      rcases alone_cases ha with ⟨rfl, rfl, _, hnm⟩ | ⟨_, _, _, hb, rfl⟩
      · have hL : ∀ (m : List K), (∀ x ∈ m, count x.2 ≤ N ∧ ok x.2 = true ∧ x.1.length ≤ 24) → mszL m ≤ 2100 * countL m := by
          intro m
          induction m with
          | nil => intro _; simp [mszL]
          | cons x m ihm =>
            intro hm
            obtain ⟨n, t⟩ := x
            have h1 := hm (n, t) (by simp)
            have h2 := ih t h1.1 h1.2.1
            have h3 := ihm (fun x hx => hm x (by simp [hx]))
            have h4 : n.length ≤ 24 := h1.2.2
            simp only [mszL, countL]; omega
        have := hL l (fun x hx => ⟨by have := countL_mem hx; simp only [count] at hc; omega, okL_mem hk hx, name_le (named_all l none hnm x hx)⟩)
        simp only [msz, count, List.length_nil]; omega
      · simp only [msz, mszL, count, countL]; omega
  obtain ⟨h1, h2, _⟩ := look_parts h
  have := key (count t) t (Nat.le_refl _) h1
  omega
set_option maxRecDepth 100000 in
set_option maxHeartbeats 4000000 in
theorem equal_any (t u : T) (v1 v2 : Value) (w : World) (hv1 : NodeAt w v1 t) (hv2 : NodeAt w v2 u) :
    Calls Tryd.prog 24 #[v1, v2] w fun e w' => e = .returned (.bool (right t && (right u && same t u))) ∧ Below w.heap.size w w' := by
  obtain ⟨x, rfl, hx⟩ := hv1
  obtain ⟨y, rfl, hy⟩ := hv2
  have HX := Lib.hid hx
  have HY := Lib.hid hy
  clear hx hy
  go_enter Tryd.func24, Tryd.ntmps24
  go_wp2_with (first | (refine Agg.wpList_box rfl 26 _ rfl (ndC x) rfl ?_; intro g2 w1 hb hx hg; have HB1 := Lib.hid hb; have HX1 := Lib.hid hx; clear hb hx hg) | (refine Agg.wpList_box rfl 26 _ rfl (ndC y) rfl ?_; intro g3 w2 hb hx hg; have HB2 := Lib.hid (HB1.out.below hx); have HC2 := Lib.hid hb; have HX2 := Lib.hid (Agg.belowThen HX1.out (Nat.le_refl _) hx); clear hb hx hg) | (with_reducible refine Agg.wpList_loadL (NdL.of_blk HB2.out).all rfl _ rfl rfl ?_))
  refine (tright_any (.agg (ndC x)) t w2 ⟨x, rfl, HX.out.below HX2.out⟩).mono ?_
  rintro e w3 ⟨rfl, hx⟩
  have HB3 := Lib.hid (HB2.out.below hx)
  have HC3 := Lib.hid (HC2.out.below hx)
  have HX3 := Lib.hid (Agg.belowThen HX2.out (Nat.le_refl _) hx)
  clear hx
  cases hr : right t with
  | false =>
    have HRF := Lib.hid hr
    clear hr
    go_wp2_with fail
    go_ret
    exact ⟨by rw [HRF.out]; rfl, HX3.out⟩
  | true =>
    have HRT := Lib.hid hr
    clear hr
    go_wp2_with (first | (with_reducible refine Agg.wpList_loadL (NdL.of_blk HC3.out).all rfl _ rfl rfl ?_))
    refine (tright_any (.agg (ndC y)) u w3 ⟨y, rfl, HY.out.below HX3.out⟩).mono ?_
    rintro e w4 ⟨rfl, hx⟩
    have HB4 := Lib.hid (HB3.out.below hx)
    have HC4 := Lib.hid (HC3.out.below hx)
    have HX4 := Lib.hid (Agg.belowThen HX3.out (Nat.le_refl _) hx)
    clear hx
    cases hr : right u with
    | false =>
      have HRF := Lib.hid hr
      clear hr
      go_wp2_with fail
      go_ret
      exact ⟨by rw [HRT.out, HRF.out]; rfl, HX4.out⟩
    | true =>
      have h1 := right_msz HRT.out
      have h2 := right_msz hr
      have HRU := Lib.hid hr
      clear hr
      go_wp2_with (first | (with_reducible refine Agg.wpList_loadL (NdL.of_blk HB4.out).all rfl _ rfl rfl ?_) | (with_reducible refine Agg.wpList_loadL (NdL.of_blk HC4.out).all rfl _ rfl rfl ?_))
      refine (ts_all (count t) t u (Nat.le_refl _) (by omega) (by omega) (.agg (ndC x)) (.agg (ndC y)) w4 ⟨x, rfl, HX.out.below HX4.out⟩ ⟨y, rfl, HY.out.below HX4.out⟩).mono ?_
      rintro e w5 ⟨rfl, hx⟩
      have HX5 := Lib.hid (Agg.belowThen HX4.out (Nat.le_refl _) hx)
      clear hx
      go_wp2_with fail
      go_ret
      exact ⟨by rw [HRT.out, HRU.out]; rfl, HX5.out⟩
end Go.Proofs.YtfiadgdinhmgbaaDoor
/-! 'copy' into a row of the call's own, at elements of many cells. -/
namespace Go.Agg
open Go.RowKit
section
variable {P : Program} {α : Type} {E : Elem P α} {w : World} {base : Nat}
theorem Elem.flat_take (l : List α) (k : Nat) (hk : k ≤ l.length) : (E.flat l).take (k * E.n) = E.flat (l.take k) := by
  have h : E.flat l = E.flat (l.take k) ++ E.flat (l.drop k) := by rw [← E.flat_append, List.take_append_drop]
  rw [h, List.take_left' (by rw [E.flat_length, List.length_take, Nat.min_eq_left hk])]
theorem Elem.flat_drop (l : List α) (k : Nat) (hk : k ≤ l.length) : (E.flat l).drop (k * E.n) = E.flat (l.drop k) := by
  have h : E.flat l = E.flat (l.take k) ++ E.flat (l.drop k) := by rw [← E.flat_append, List.take_append_drop]
  rw [h, List.drop_left' (by rw [E.flat_length, List.length_take, Nat.min_eq_left hk])]
theorem run_copyE (w : World) (sT ty : TypeId) (g o dLen dCap : Nat) (a : Addr) (sLen sCap : Nat) (cur : Array Value) (t : TypeId) (cs : List Value)
    (hg : w.heap[g]? = some (.cells cur t (0, 0))) (hn : cs.length = Nat.min sLen dLen * E.n)
    (hsrc : ∀ j v, cs[j]? = some v → w.cell? (a.add j) = some v) (hfit : o + cs.length ≤ cur.size) (h1 : ∀ v ∈ cs, v.oneCell' = true) :
    (Builtin.copy_ #[E.st, sT] ty #[.slice (some ⟨g, o, none⟩) dLen dCap, .slice (some a) sLen sCap]).run P w =
      .ok (goInt (Nat.min sLen dLen : Nat)) (w.setRow g (cur.toList.take o ++ cs ++ cur.toList.drop (o + cs.length)).toArray) := by
  obtain ⟨i, hi, _, hs, _⟩ := E.info
  have hl := run_loadCells_list (P := P) w a cs hsrc
  have hst := run_storeCells_at P g o t cs 0 cur w hg (by simpa using hfit) h1
  simp [Builtin.copy_, run_underlying E.slice, Builtin.lenOf, Builtin.firstCells, sizeOf, typeInfo, hi, hs, ← hn, hl, hst]
theorem splice_take {β : Type} (C cs : List β) (o N : Nat) (h1 : o + cs.length ≤ N) (h2 : N ≤ C.length) : (C.take o ++ cs ++ C.drop (o + cs.length)).take N = (C.take N).take o ++ cs ++ (C.take N).drop (o + cs.length) := by
  rw [List.take_append, List.take_of_length_le (by simp; omega)]
  congr 1
  · rw [List.take_take, Nat.min_eq_left (by omega)]
  · rw [List.drop_take]; congr 1; simp; omega
theorem run_copy_put {g n c : Nat} {sv : Value} {l m : List α} (hown : Own E base w (.slice (some ⟨g, 0, none⟩) n c) l) (hs : SliceOf E w sv m) (hne : m ≠ []) (k dl dc : Nat) (hk : k + m.length ≤ l.length) (hdl : m.length ≤ dl) (ty : TypeId) :
    ∃ cur, (Builtin.copy_ #[E.st, E.st] ty #[.slice (some ⟨g, k * E.n, none⟩) dl dc, sv]).run P w = .ok (goInt (m.length : Nat)) (w.setRow g cur) ∧ Own E base (w.setRow g cur) (.slice (some ⟨g, 0, none⟩) n c) (l.take k ++ m ++ l.drop (k + m.length)) := by
  obtain ⟨hfl, ⟨h0, _⟩ | ⟨g', cap, cur, hv, hgb, hcur, hle, hmx, hsz, htk⟩⟩ := hown
  · cases h0
  · obtain ⟨rfl, rfl, rfl⟩ : g = g' ∧ n = l.length ∧ c = cap := by injection hv with e1 e2 e3; injection e1 with e1; injection e1 with e1; exact ⟨e1, e2, e3⟩
    rcases hs with ⟨p, c', rfl, rfl⟩ | ⟨p, sc, rfl, hp, hsc⟩
    · exact absurd rfl hne
    · have hml : (E.flat m).length = m.length * E.n := E.flat_length m
      have hkm : k * E.n + m.length * E.n ≤ l.length * E.n := by rw [← Nat.add_mul]; exact Nat.mul_le_mul_right _ hk
      have hlc : l.length * E.n ≤ c * E.n := Nat.mul_le_mul_right _ hle
      have hmd : Nat.min m.length dl = m.length := Nat.min_eq_left hdl
      refine ⟨_, (run_copyE w E.st ty g (k * E.n) dl dc p m.length sc cur E.ty (E.flat m) hcur (by rw [hml, hmd]) hsc (by rw [hml, hsz]; omega) (E.flat_one' m)).trans (by rw [hmd]), ?_⟩
      refine ⟨E.flat_length _, .inr ⟨g, c, _, by congr 1; simp; omega, hgb, setRow_heap _ _ _ _ _ _ hcur, by simp; omega, hmx, ?_, ?_⟩⟩
      · simp [hml]
        rw [← hsz] at *; omega
      · rw [show (l.take k ++ m ++ l.drop (k + m.length)).length = l.length by simp; omega, splice_take _ _ _ _ (by rw [hml]; exact hkm) (by rw [show cur.toList.length = cur.size from Array.length_toList, hsz]; exact hlc), htk, E.flat_append, E.flat_append, hml, ← Nat.add_mul, E.flat_take _ _ (by omega), E.flat_drop _ _ hk]
theorem run_copy_up {g n c : Nat} {l : List α} (hown : Own E base w (.slice (some ⟨g, 0, none⟩) n c) l) (hroom : n + 1 ≤ c) (k dl dc sl sc : Nat) (hk : k < n) (hdl : dl = n - k) (hsl : sl = n + 1 - k) (ty : TypeId) :
    ∃ cur, (Builtin.copy_ #[E.st, E.st] ty #[.slice (some ⟨g, (k + 1) * E.n, none⟩) dl dc, .slice (some ⟨g, k * E.n, none⟩) sl sc]).run P w = .ok (goInt ((n - k : Nat) : Nat)) (w.setRow g cur) ∧ Own E base (w.setRow g cur) (.slice (some ⟨g, 0, none⟩) (n + 1) c) (l.take (k + 1) ++ l.drop k) := by
  obtain ⟨hfl, ⟨h0, _⟩ | ⟨g', cap, cur, hv, hgb, hcur, hle, hmx, hsz, htk⟩⟩ := hown
  · cases h0
  · obtain ⟨rfl, rfl, rfl⟩ : g = g' ∧ n = l.length ∧ c = cap := by injection hv with e1 e2 e3; injection e1 with e1; injection e1 with e1; exact ⟨e1, e2, e3⟩
    subst hdl hsl
    have hml : (E.flat (l.drop k)).length = (l.length - k) * E.n := by rw [E.flat_length, List.length_drop]
    have hkn : (k + 1) * E.n + (l.length - k) * E.n = (l.length + 1) * E.n := by rw [← Nat.add_mul]; congr 1; omega
    have hlc : (l.length + 1) * E.n ≤ c * E.n := Nat.mul_le_mul_right _ hroom
    have hmn : Nat.min (l.length + 1 - k) (l.length - k) = l.length - k := Nat.min_eq_right (by omega)
    refine ⟨_, (run_copyE w E.st ty g ((k + 1) * E.n) (l.length - k) dc ⟨g, k * E.n, none⟩ (l.length + 1 - k) sc cur E.ty (E.flat (l.drop k)) hcur (by rw [hml, hmn]) ?_ (by rw [hml, hsz]; omega) (E.flat_one' _)).trans (by rw [hmn]), ?_⟩
    · intro j u hj
      rw [add_plain, cell_of_row _ _ _ _ _ _ hcur]
      rw [← E.flat_drop _ _ (by omega), ← htk, List.getElem?_drop, List.getElem?_take] at hj
      split at hj
      · simpa using hj
      · cases hj
    · have hl1 : (l.take (k + 1) ++ l.drop k).length = l.length + 1 := by simp; omega
      refine ⟨by rw [E.flat_length, hl1], .inr ⟨g, c, _, by rw [hl1], hgb, setRow_heap _ _ _ _ _ _ hcur, by omega, hmx, ?_, ?_⟩⟩
      · simp [hml]; rw [← hsz] at hlc ⊢; omega
      · rw [hl1, List.take_append_of_le_length (by simp [hml]; rw [← hsz] at hlc; omega), List.take_of_length_le (by simp [hml]; omega), E.flat_append, ← E.flat_take _ _ (by omega), ← htk, List.take_take, Nat.min_eq_left (Nat.mul_le_mul_right _ (by omega))]
end
end Go.Agg
/-! Laws of no program for slices.Insert: slices of many cells cut, grown by zeros; copies whose runs are known. -/
namespace Go.Agg
open Go.RowKit
section
variable {P : Program} {α : Type} (E : Elem P α)
theorem Elem.runLow (p : Option Addr) (n c k : Nat) (hk : k ≤ n) (W : World) : (Instr.sliceAt E.st (.slice p n c) (some (.int .i64 (k : Int))) none none).run P W = .ok (.slice (if c = k then p else p.map (·.add (k * E.n))) (n - k) (c - k)) W := by
  simp [Instr.sliceAt, Instr.slice, Instr.sliceBounds, Instr.sliceBound, run_underlying E.slice, Sem.run_bind, asIntOf, run_sizeOf_elem]
  intro h
  omega
theorem Elem.runCut (g n c k : Nat) (hk : k ≤ n) (hc : k < c) (W : World) : (Instr.sliceAt E.st (.slice (some ⟨g, 0, none⟩) n c) (some (.int .i64 (k : Int))) none none).run P W = .ok (.slice (some ⟨g, k * E.n, none⟩) (n - k) (c - k)) W := by
  rw [E.runLow _ n c k hk W, if_neg (by omega)]
  simp only [Option.map_some, add_plain, Nat.zero_add]
theorem Elem.runHigh (p : Option Addr) (n c k : Nat) (hk : k ≤ c) (W : World) : (Instr.sliceAt E.st (.slice p n c) none (some (.int .i64 (k : Int))) none).run P W = .ok (.slice p k c) W := by
  have hp : (p.map fun x => x.add 0) = p := by cases p <;> rfl
  simp [Instr.sliceAt, Instr.slice, Instr.sliceBounds, Instr.sliceBound, run_underlying E.slice, Sem.run_bind, asIntOf, hk, hp, run_sizeOf_elem]
variable {E}
/-- zeros, as elements -/
theorem zeroCells_flat (z : α) (hz : E.val z = E.zero) (n : Nat) : (Builtin.zeroCells E.zero.cells n).toList = E.flat (List.replicate n z) := by
  have hs := E.zsize
  have hpos := E.pos
  refine List.ext_getElem? fun j => ?_
  by_cases hj : j < n * E.n
  · have hq : j % E.n < E.n := Nat.mod_lt _ hpos
    have hk : j / E.n < n := (Nat.div_lt_iff_lt_mul hpos).2 hj
    have h4 : (E.val z).cells[j % E.n]? = some E.zero.cells[j % E.n]! := by
      rw [hz, getElem!_def, Array.getElem?_eq_getElem (by omega)]
    have h5 := E.flat_get (List.replicate n z) (j / E.n) z (j % E.n) _ (by simp [hk]) h4
    rw [show j / E.n * E.n + j % E.n = j by rw [Nat.mul_comm]; exact Nat.div_add_mod j E.n] at h5
    rw [h5]
    simp [Builtin.zeroCells, hs, hj]
  · rw [List.getElem?_eq_none (by simp [Builtin.zeroCells, hs]; omega), List.getElem?_eq_none (by rw [E.flat_length]; simp; omega)]
/-- 'append(s, make([]T, n)...)' where there is no room -/
theorem run_append_zerosE {base : Nat} {w : World} {g c : Nat} {l : List α} (z : α) (hz : E.val z = E.zero) (hown : Own E base w (.slice (some ⟨g, 0, none⟩) l.length c) l) (tn : TypeId) (htn : P.underlying tn = some (.int .i64)) (n : Nat) (hn : 0 < n) (hg : c < l.length + n) (h63 : l.length + n ≤ 1099511627776 / 8) (hby : E.bytes ≤ 1000) (hbase : base ≤ w.heap.size) (ty : TypeId) :
    ∃ cap w', (Builtin.append_ #[E.st, tn] ty #[.slice (some ⟨g, 0, none⟩) l.length c, .int .i64 (n : Int)]).run P w = .ok (.slice (some ⟨w.heap.size, 0, none⟩) (l.length + n) cap) w' ∧ Own E base w' (.slice (some ⟨w.heap.size, 0, none⟩) (l.length + n) cap) (l ++ List.replicate n z) ∧ Below w.heap.size w w' ∧ w'.heap.size = w.heap.size + 1 := by
  obtain ⟨i, hi, hzi, hs, hb⟩ := E.info
  have hsl := hown.slice
  obtain ⟨_, ⟨h0, _⟩ | ⟨g', cap, cur, hv, hgb, hcur, hle, hmx, hsz, htk⟩⟩ := hown
  · cases h0
  · obtain ⟨rfl, rfl⟩ : g = g' ∧ c = cap := by injection hv with e1 e2 e3; injection e1 with e1; injection e1 with e1; exact ⟨e1, e3⟩
    have hmul : (l.length + n) * E.bytes ≤ 140737488355328 := Nat.le_trans (Nat.mul_le_mul h63 hby) (by omega)
    have hmul2 : n * E.bytes ≤ 140737488355328 := Nat.le_trans (Nat.mul_le_mul_right _ (by omega)) hmul
    have hold : (Builtin.firstCells i.size l.length (.slice (some ⟨g, 0, none⟩) l.length c)).run P w.drew = .ok (E.flat l).toArray w.drew := by
      rw [hs]
      refine run_firstCells_some w.drew E.n l.length ⟨g, 0, none⟩ l.length c (E.flat l) (E.flat_length l) fun j u hj => ?_
      rw [add_plain, Nat.zero_add]
      rw [← htk, List.getElem?_take] at hj
      split at hj
      · show w.cell? _ = _
        rw [cell_of_row _ _ _ _ _ _ hcur]
        simpa using hj
      · cases hj
    have hr := Lib.run_append_grow_zeros (P := P) w E.st tn ty E.ty i E.zero .i64 .i64 E.slice htn hi hzi (some ⟨g, 0, none⟩) l.length c (E.flat l) hold n hn (by rw [hs]; exact E.pos) hg (by omega) (by rw [hb]; omega) (by rw [hb]; exact growslice_fits hg hmul)
    refine ⟨_, _, hr, ⟨E.flat_length _, .inr ⟨w.heap.size, grownCap w (l.length + n) c E.ty, _, by rw [List.length_append, List.length_replicate], hbase, heap_alloc_new _ _, by rw [List.length_append, List.length_replicate]; exact grownCap_ge w _ _ _, grownCap_le_maxLen w (l.length + n) c E.ty (by unfold maxLen; omega), ?_, ?_⟩⟩, (Below.refl _ _).drew.alloc (Nat.le_refl _) _, Array.size_push _⟩
    · have h1 := grownCap_ge w (l.length + n) c E.ty
      have h2 : (E.flat l).length = l.length * E.n := E.flat_length l
      simp only [Array.size_append, List.size_toArray, h2, Builtin.zeroCells, Array.size_map, Array.size_range, E.zsize]
      rw [← Nat.add_mul, ← Nat.add_mul]
      congr 1
      omega
    · rw [Array.toList_append, Array.toList_append, zeroCells_flat z hz, zeroCells_flat z hz, ← E.flat_append, ← E.flat_append, List.append_assoc]
      have := E.flat_take ((l ++ List.replicate n z) ++ List.replicate (grownCap w (l.length + n) c E.ty - (l.length + n)) z) (l ++ List.replicate n z).length (by simp)
      rw [List.take_left] at this
      rw [← List.append_assoc]
      exact this
section
variable {ops : Array Oper} {rest : List Oper} {o : Oper} {a : Act} {w : World} {Q : Exit → Act → World → Prop}
theorem wpList_copyR (hgd : o.guard = none) (d s : Operand) (t t' : TypeId)
    (ho : o.op = .call { callee := .builtin .copy, args := #[d, s], argTypes := #[t, t'] }) (v u : Value) (hd : a.eval d = v) (hs : a.eval s = u) {v' : Value} {w' : World}
    (hr : (Builtin.copy_ #[t, t'] o.type #[v, u]).run P w = .ok v' w') (h : wpList P ops Q rest (a.put o.dst v') w') : wpList P ops Q (o :: rest) a w := by
  refine wpList_val hgd (v := v') (w' := w') ?_ h
  simp only [execOp, ho, resolve, invoke, builtin, Sem.run_bind, Sem.run_pure, Result.andThen_ok, List.map_toArray, List.map_cons, List.map_nil, hd, hs, hr]
theorem wpList_appendR (hgd : o.guard = none) (s x : Operand) (t tn : TypeId)
    (ho : o.op = .call { callee := .builtin .append, args := #[s, x], argTypes := #[t, tn] }) (vs vx : Value) (hs : a.eval s = vs) (hx : a.eval x = vx) {v' : Value} {w' : World}
    (hr : (Builtin.append_ #[t, tn] o.type #[vs, vx]).run P w = .ok v' w') (h : wpList P ops Q rest (a.put o.dst v') w') : wpList P ops Q (o :: rest) a w := by
  refine wpList_val hgd (v := v') (w' := w') ?_ h
  simp only [execOp, ho, resolve, invoke, builtin, Sem.run_bind, Sem.run_pure, Result.andThen_ok, List.map_toArray, List.map_cons, List.map_nil, hs, hx, hr]
end
theorem Pushed.of_only {base : Nat} {w w' : World} {v : Value} {l : List α} (h : Own E base w v l) (ho : Only (fun k => v.ownBlock = some k) w w') : Pushed E base w w' v :=
  pushed_of h ⟨ho.os, ho.tape, ho.output, ho.size, fun k hk hne => ho.block k hk fun e => hne e.symm⟩
end
end Go.Agg
