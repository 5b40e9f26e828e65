/- Whether trees are one: spencekit.SameNode; tree.same, Equal. -/
import Derived.Test.YtfiadgdinhmgbaaDoorWAM
import Derived.Test.YtfiadgdinhmgbaaDoorWAS
import Derived.Test.YtfiadgdinhmgbaaDoorWAX
import Derived.Test.YtfiadgdinhmgbaaDoorWAN
namespace Go.Tr
theorem bytes_msz (k : Int) (b : List UInt8) (l : List K) : b.length ≤ msz (.mk k b l) := by simp only [msz]; omega
theorem len_mszL : ∀ (l : List K), l.length ≤ mszL l
  | [] => by simp [mszL]
  | (n, t) :: l => by have := len_mszL l; simp only [List.length_cons, mszL]; omega
theorem kids_msz (k : Int) (b : List UInt8) (l : List K) : l.length ≤ msz (.mk k b l) := by have := len_mszL l; simp only [msz]; omega
theorem mem_mszL : ∀ {l : List K} {x : K}, x ∈ l → x.1.length + msz x.2 ≤ mszL l
  | (n, t) :: l, x, h => by
    rcases List.mem_cons.1 h with rfl | h
    · simp only [mszL]; omega
    · have := mem_mszL h; simp only [mszL]; omega
theorem kid_msz {k : Int} {b : List UInt8} {l : List K} {x : K} (h : x ∈ l) : msz x.2 ≤ msz (.mk k b l) := by have := mem_mszL h; simp only [msz]; omega
theorem take_snocE {l m : List K} {k : Nat} {x y : K} (hx : l[k]? = some x) (hy : m[k]? = some y) (h : l.take k = m.take k) (hxy : x = y) : l.take (k + 1) = m.take (k + 1) := by
  rw [take_succ' hx, take_succ' hy, h, hxy]
instance : DecidableEq T := fun a b => decidable_of_iff _ (same_iff a b)
theorem same_dec (t u : T) : same t u = decide (t = u) := by
  rw [Bool.eq_iff_iff, same_iff, decide_eq_true_iff]
theorem sameL_dec (l m : List K) : sameL l m = decide (l = m) := by
  rw [Bool.eq_iff_iff, sameL_iff, decide_eq_true_iff]
end Go.Tr
namespace Go.Proofs.YtfiadgdinhmgbaaDoor
open Go.RowKit Pl Go.Agg Go.Tr
theorem KdB.of {w : World} {g : Nat} {y : KdV} (h : Blk w g 51 (kdC y)) : LoadsL Tryd.prog w 9 (some ⟨g, 0, none⟩) (.string ⟨y.1.toArray⟩) ∧ LoadsL Tryd.prog w 26 (some ⟨g, 1, none⟩) (.agg (ndC y.2)) := ⟨(KdL.ofB h).name, kid_node h⟩
theorem bytesEqual_any (v u : Value) (a b : List UInt8) (w : World) (he : BytesAt w v a) (hf : BytesAt w u b) :
    Calls Tryd.prog 78 #[v, u] w fun e w' => e = .returned (.bool (decide (a = b))) ∧ Below w.heap.size w w' := by
  have HE := Lib.hid he
  have HF := Lib.hid hf
  clear he hf
  go_enter Tryd.func78, Tryd.ntmps78
  go_wp2_with (first | (with_reducible refine wpList_toStr HE.out _ rfl rfl rfl ?_) | (with_reducible refine wpList_toStr HF.out _ rfl rfl rfl ?_) | (with_reducible refine wpList_eqlS rfl rfl rfl rfl _ rfl ?_))
  go_ret
  exact ⟨rfl, Below.refl _ _⟩

def snC (N : Nat) : Prop := ∀ (t u : T) (_ : count t ≤ N) (_ : msz t ≤ 1048576) (_ : msz u ≤ 1048576) (v1 v2 : Value) (w : World) (_ : NodeAt w v1 t) (_ : NodeAt w v2 u),
    Calls Tryd.prog 16 #[v1, v2] w fun e w' => e = .returned (.bool (same t u)) ∧ Below w.heap.size w w'

set_option maxRecDepth 100000 in
set_option maxHeartbeats 4000000 in
theorem snKid_any {N : Nat} (ih : snC N) (a b : K) (hc : count a.2 ≤ N) (h1 : msz a.2 ≤ 1048576) (h2 : msz b.2 ≤ 1048576) (x y : KdV) (w : World) (hx1 : x.1 = a.1) (hx2 : NodeV w x.2 a.2) (hy1 : y.1 = b.1) (hy2 : NodeV w y.2 b.2) :
    Calls Tryd.prog 71 #[.agg (kdC x), .agg (kdC y)] w fun e w' => e = .returned (.bool (decide (a = b))) ∧ Below w.heap.size w w' := by
  have HIH := Lib.hid ih
  have HX := Lib.hid hx2
  have HY := Lib.hid hy2
  have HN := Lib.hid (And.intro hx1 hy1)
  clear ih hx2 hy2 hx1 hy1
  go_enter Tryd.func71, Tryd.ntmps71
  by_cases hn : a.1 = b.1
  · have HS := Lib.hid (show decide (x.1 = y.1) = true by rw [HN.out.1, HN.out.2]; simpa using hn)
    have HR := Lib.hid (show decide (a = b) = same a.2 b.2 by
      rw [same_dec]
      obtain ⟨n, t⟩ := a; obtain ⟨m, u⟩ := b
      have hn : n = m := hn
      simp [hn])
    clear hn
    go_wp2_with (first | (refine Agg.wpList_box rfl 51 _ rfl (kdC x) rfl ?_; intro g2 w1 hb hx hg; have HB1 := Lib.hid hb; have HX1 := Lib.hid hx; clear hb hx hg) | (refine Agg.wpList_box rfl 51 _ rfl (kdC y) rfl ?_; intro g3 w2 hb hx hg; have HB2 := Lib.hid (HB1.out.below hx); have HC2 := Lib.hid hb; have HX2 := Lib.hid (Agg.belowThen HX1.out (Nat.le_refl _) hx); clear hb hx hg) | (with_reducible refine Agg.wpList_loadL (KdB.of HB2.out).1 rfl _ rfl rfl ?_) | (with_reducible refine Agg.wpList_loadL (KdB.of HC2.out).1 rfl _ rfl rfl ?_) | (with_reducible refine Agg.wpList_loadL (KdB.of HB2.out).2 rfl _ rfl rfl ?_) | (with_reducible refine Agg.wpList_loadL (KdB.of HC2.out).2 rfl _ rfl rfl ?_) | (with_reducible refine wpList_eqlS rfl rfl rfl rfl true HS.out ?_))
    refine (HIH.out a.2 b.2 hc h1 h2 (.agg (ndC x.2)) (.agg (ndC y.2)) w2 ⟨_, rfl, HX.out.below HX2.out⟩ ⟨_, rfl, HY.out.below HX2.out⟩).mono ?_
    rintro e w3 ⟨rfl, hx⟩
    have HX3 := Lib.hid (Agg.belowThen HX2.out (Nat.le_refl _) hx)
    clear hx
    go_wp2_with fail
    go_ret
    exact ⟨ret_bool HR.out.symm, HX3.out⟩
  · have HS := Lib.hid (show decide (x.1 = y.1) = false by rw [HN.out.1, HN.out.2]; simpa using hn)
    have HR := Lib.hid (show decide (a = b) = false by simp; intro e; exact hn (by rw [e]))
    clear hn
    go_wp2_with (first | (refine Agg.wpList_box rfl 51 _ rfl (kdC x) rfl ?_; intro g2 w1 hb hx hg; have HB1 := Lib.hid hb; have HX1 := Lib.hid hx; clear hb hx hg) | (refine Agg.wpList_box rfl 51 _ rfl (kdC y) rfl ?_; intro g3 w2 hb hx hg; have HB2 := Lib.hid (HB1.out.below hx); have HC2 := Lib.hid hb; have HX2 := Lib.hid (Agg.belowThen HX1.out (Nat.le_refl _) hx); clear hb hx hg) | (with_reducible refine Agg.wpList_loadL (KdB.of HB2.out).1 rfl _ rfl rfl ?_) | (with_reducible refine Agg.wpList_loadL (KdB.of HC2.out).1 rfl _ rfl rfl ?_) | (with_reducible refine wpList_eqlS rfl rfl rfl rfl false HS.out ?_))
    go_ret
    exact ⟨ret_bool HR.out.symm, HX2.out⟩

set_option maxRecDepth 100000 in
set_option maxHeartbeats 8000000 in
theorem snKids_any {N : Nat} (ih : snC N) (l m : List K) (hc : ∀ x ∈ l, count x.2 ≤ N) (h1 : mszL l ≤ 1048576) (h2 : mszL m ≤ 1048576) (ks js : List KdV) (v1 v2 : Value) (w : World) (hs1 : SliceOf EK w v1 ks) (hk1 : KidsV w ks l) (hs2 : SliceOf EK w v2 js) (hk2 : KidsV w js m) :
    Calls Tryd.prog 45 #[v1, v2] w fun e w' => e = .returned (.bool (sameL l m)) ∧ Below w.heap.size w w' := by
  have hl1 := hk1.len
  have hl2 := hk2.len
  have hlen1 := kds_len hs1
  have hlen2 := kds_len hs2
  rw [hl1] at hlen1
  rw [hl2] at hlen2
  have hb1 := Nat.le_trans (len_mszL l) h1
  have hb2 := Nat.le_trans (len_mszL m) h2
  have HIH := Lib.hid ih
  have HS1 := Lib.hid hs1
  have HS2 := Lib.hid hs2
  have HK1 := Lib.hid hk1
  have HK2 := Lib.hid hk2
  have HC := Lib.hid hc
  clear ih hs1 hs2 hk1 hk2 hl1 hl2 hc
  by_cases hlen : l.length = m.length
  · have hne : ((l.length : Int) != (m.length : Int)) = false := by simp [hlen]
    have HLEN := Lib.hid hlen
    clear hlen
    go_enter Tryd.func45, Tryd.ntmps45
    go_wp2_with fail
    go_loopw [5] (fun i wr => ∃ k : Nat, k ≤ l.length ∧ i = .int .i64 (k : Int) ∧ l.take k = m.take k ∧ Below w.heap.size w wr) (fun i _ => l.length - (intOf i).toNat)
    case atStart => exact ⟨0, by omega, rfl, rfl, Below.refl _ _⟩
    case round =>
      obtain ⟨w1, rfl⟩ : ∃ w1 : World, w1 = wr := ⟨_, rfl⟩
      obtain ⟨k, hk, rfl, htk, hw⟩ := hrel
      have HTK := Lib.hid htk
      have HW := Lib.hid hw
      clear htk hw
      by_cases hlt : k < l.length
      · have hd : decide ((k : Int) < (l.length : Int)) = true := by simp; omega
        obtain ⟨a, hak⟩ : ∃ a, l[k]? = some a := ⟨_, List.getElem?_eq_getElem hlt⟩
        obtain ⟨b, hbk⟩ : ∃ b, m[k]? = some b := ⟨_, List.getElem?_eq_getElem (by rw [← HLEN.out]; exact hlt)⟩
        obtain ⟨x, hxk, hx1, hx2⟩ := HK1.out.at_ k a hak
        obtain ⟨y, hyk, hy1, hy2⟩ := HK2.out.at_ k b hbk
        obtain ⟨p, hadr, hle⟩ := kid_at (HS1.out.below HW.out) k x hxk
        obtain ⟨q, hadq, hlq⟩ := kid_at (HS2.out.below HW.out) k y hyk
        have HE := Lib.hid hle.all
        have HQ := Lib.hid hlq.all
        obtain ⟨r, hr⟩ : ∃ r, decide (a = b) = r := ⟨_, rfl⟩
        have HCALL := Lib.hid (fun z : Later w1 => (show Calls Tryd.prog 71 #[.agg (kdC x), .agg (kdC y)] z.w fun e w' => e = .returned (.bool r) ∧ Below z.w.heap.size z.w w' by
          have hZ := Agg.belowThen HW.out (Nat.le_refl _) z.h
          rw [← hr]; exact snKid_any HIH.out a b (HC.out a (List.mem_of_getElem? hak)) (by have := mem_mszL (List.mem_of_getElem? hak); omega) (by have := mem_mszL (List.mem_of_getElem? hbk); omega) x y z.w hx1 (hx2.below hZ) hy1 (hy2.below hZ)))
        have HRR := Lib.hid hr
        have HAK := Lib.hid hak
        have HBK := Lib.hid hbk
        clear hle hlq hxk hyk hx1 hx2 hy1 hy2 hr hak hbk
        go_wp2_with fail
        try simp only [Act.put, List.setIfInBounds_toArray, List.set_cons_succ, List.set_cons_zero]
        refine Agg.wp_region_later_lit (by kernel_rfl) (by kernel_rfl) ?_
        repeat (first | go_big_quiet_skip | ((first | (with_reducible refine Agg.wpQuiet_loadL HE.out rfl _ rfl rfl ?_) | (with_reducible refine Agg.wpQuiet_loadL HQ.out rfl _ rfl rfl ?_)); simp only [Act.put, List.setIfInBounds_toArray, List.set_cons_succ, List.set_cons_zero]) | go_big_quiet_step (first | (go_at_call 71; first | (with_reducible exact Agg.Calls.later (HCALL.out _)))))
        refine wpQuiet_nil ?_
        intro _ hw'
        obtain ⟨x4, rfl⟩ := hw'
        have HX4 := Lib.hid (Agg.belowThen HW.out (Nat.le_refl _) x4.h)
        cases r with
        | false =>
          have HF := Lib.hid (show sameL l m = false by
            rw [sameL_dec, decide_eq_false_iff_not]
            rintro rfl
            have h := HRR.out
            rw [decide_eq_false_iff_not] at h
            exact h (Option.some.inj (HAK.out.symm.trans HBK.out)))
          go_wp2_with fail
          go_ret
          exact ⟨ret_bool HF.out.symm, HX4.out⟩
        | true =>
          have HT := Lib.hid (take_snocE HAK.out HBK.out HTK.out (of_decide_eq_true HRR.out))
          go_wp2_with fail
          go_roundw
          case rel => exact ⟨k + 1, by omega, by go_num, HT.out, HX4.out⟩
          case measure => simp [intOf]; omega
      · obtain rfl : k = l.length := by omega
        have hd : decide (((l.length : Nat) : Int) < ((l.length : Nat) : Int)) = false := by simp
        have HT := Lib.hid (show sameL l m = true by
          have h := HTK.out
          rw [List.take_length, HLEN.out, List.take_length] at h
          rw [sameL_dec, h]; simp)
        go_wp2_with fail
        go_ret
        exact ⟨ret_bool HT.out.symm, HW.out⟩
  · have hne : ((l.length : Int) != (m.length : Int)) = true := by simp; omega
    have HF := Lib.hid (show sameL l m = false by
      rw [sameL_dec, decide_eq_false_iff_not]
      exact fun e => hlen (by rw [e]))
    clear hlen
    go_enter Tryd.func45, Tryd.ntmps45
    go_wp2_with fail
    go_ret
    exact ⟨ret_bool HF.out.symm, Below.refl _ _⟩

set_option maxRecDepth 100000 in
set_option maxHeartbeats 8000000 in
theorem sn_all : ∀ N, snC N := by
  intro N
  induction N with
  | zero => intro t u h; have := count_pos t; omega
  | succ N ih =>
  intro t u hc h1 h2 v1 v2 w hv1 hv2
  obtain ⟨x, rfl, hx⟩ := hv1
  obtain ⟨y, rfl, hy⟩ := hv2
  obtain ⟨k, a, l⟩ := t
  obtain ⟨j, b, m⟩ := u
  obtain ⟨hxk, hxb, ks, hxs, hxl⟩ := hx
  obtain ⟨hyk, hyb, js, hys, hyl⟩ := hy
  have HXB := Lib.hid hxb
  have HYB := Lib.hid hyb
  have HXS := Lib.hid hxs
  have HYS := Lib.hid hys
  have HXL := Lib.hid hxl
  have HYL := Lib.hid hyl
  have HIH := Lib.hid ih
  have HC := Lib.hid (show ∀ z ∈ l, count z.2 ≤ N from fun z hz => by
    have h3 := countL_mem hz
    simp only [count] at hc
    omega)
  have hab := Nat.le_trans (bytes_msz k a l) h1
  have hbb := Nat.le_trans (bytes_msz j b m) h2
  have hlm1 : mszL l ≤ 1048576 := by simp only [msz] at h1; omega
  have hlm2 : mszL m ≤ 1048576 := by simp only [msz] at h2; omega
  have HK := Lib.hid (And.intro hxk hyk)
  clear hxb hyb hxs hys hxl hyl ih hc hxk hyk
  go_enter Tryd.func16, Tryd.ntmps16
  by_cases hk : x.1 = y.1
  · have hke : (x.1 == y.1) = true := by rw [hk]; simp
    have HKK := Lib.hid (show k = j by rw [← HK.out.1, ← HK.out.2, hk])
    clear hk
    go_wp2_with (first | (refine Agg.wpList_box rfl 26 _ rfl (ndC x) rfl ?_; intro g2 w1 hb hx hg; have HB1 := Lib.hid hb; have HX1 := Lib.hid hx; clear hb hx hg) | (refine Agg.wpList_box rfl 26 _ rfl (ndC y) rfl ?_; intro g3 w2 hb hx hg; have HB2 := Lib.hid (HB1.out.below hx); have HC2 := Lib.hid hb; have HX2 := Lib.hid (Agg.belowThen HX1.out (Nat.le_refl _) hx); clear hb hx hg) | (with_reducible refine Agg.wpList_loadL (NdL.of_blk HB2.out).kind rfl _ rfl rfl ?_) | (with_reducible refine Agg.wpList_loadL (NdL.of_blk HC2.out).kind rfl _ rfl rfl ?_) | (with_reducible refine Agg.wpList_loadL (NdL.of_blk HB2.out).bytes rfl _ rfl rfl ?_) | (with_reducible refine Agg.wpList_loadL (NdL.of_blk HC2.out).bytes rfl _ rfl rfl ?_))
    refine (sameBytes_any x.2.1.1 y.2.1.1 a b hab hbb w2 (HXB.out.below HX2.out) (HYB.out.below HX2.out)).mono ?_
    rintro e w3 ⟨rfl, hx⟩
    have HB3 := Lib.hid (HB2.out.below hx)
    have HC3 := Lib.hid (HC2.out.below hx)
    have HX3 := Lib.hid (Agg.belowThen HX2.out (Nat.le_refl _) hx)
    clear hx
    by_cases hab2 : a = b
    · have hd : decide (a = b) = true := by simpa using hab2
      have HAB := Lib.hid hab2
      clear hab2
      rw [hd]
      go_wp2_with (first | (with_reducible refine Agg.wpList_loadL (NdL.of_blk HB3.out).kids rfl _ rfl rfl ?_) | (with_reducible refine Agg.wpList_loadL (NdL.of_blk HC3.out).kids rfl _ rfl rfl ?_))
      refine (snKids_any HIH.out l m HC.out hlm1 hlm2 ks js x.2.2.1 y.2.2.1 w3 (HXS.out.below HX3.out) (HXL.out.below HX3.out) (HYS.out.below HX3.out) (HYL.out.below HX3.out)).mono ?_
      rintro e w4 ⟨rfl, hx⟩
      have HX4 := Lib.hid (Agg.belowThen HX3.out (Nat.le_refl _) hx)
      have HR := Lib.hid (show same (.mk k a l) (.mk j b m) = sameL l m by simp [same, HKK.out, HAB.out])
      clear hx
      go_wp2_with fail
      go_ret
      exact ⟨ret_bool HR.out.symm, HX4.out⟩
    · have hd : decide (a = b) = false := by simpa using hab2
      have HR := Lib.hid (show same (.mk k a l) (.mk j b m) = false by simp [same, hab2])
      clear hab2
      rw [hd]
      go_wp2_with fail
      go_ret
      exact ⟨ret_bool HR.out.symm, HX3.out⟩
  · have hke : (x.1 == y.1) = false := by simpa using hk
    have HR := Lib.hid (show same (.mk k a l) (.mk j b m) = false by
      have : ¬ k = j := fun e => hk (by rw [HK.out.1, HK.out.2, e])
      simp [same, this])
    clear hk
    go_wp2_with (first | (refine Agg.wpList_box rfl 26 _ rfl (ndC x) rfl ?_; intro g2 w1 hb hx hg; have HB1 := Lib.hid hb; have HX1 := Lib.hid hx; clear hb hx hg) | (refine Agg.wpList_box rfl 26 _ rfl (ndC y) rfl ?_; intro g3 w2 hb hx hg; have HB2 := Lib.hid (HB1.out.below hx); have HC2 := Lib.hid hb; have HX2 := Lib.hid (Agg.belowThen HX1.out (Nat.le_refl _) hx); clear hb hx hg) | (with_reducible refine Agg.wpList_loadL (NdL.of_blk HB2.out).kind rfl _ rfl rfl ?_) | (with_reducible refine Agg.wpList_loadL (NdL.of_blk HC2.out).kind rfl _ rfl rfl ?_) | (with_reducible refine Agg.wpList_loadL (NdL.of_blk HB2.out).bytes rfl _ rfl rfl ?_) | (with_reducible refine Agg.wpList_loadL (NdL.of_blk HC2.out).bytes rfl _ rfl rfl ?_))
    go_ret
    exact ⟨ret_bool HR.out.symm, HX2.out⟩

def tsC (N : Nat) : Prop := ∀ (t u : T) (_ : count t ≤ N) (_ : msz t ≤ 1048576) (_ : msz u ≤ 1048576) (v1 v2 : Value) (w : World) (_ : NodeAt w v1 t) (_ : NodeAt w v2 u),
    Calls Tryd.prog 52 #[v1, v2] w fun e w' => e = .returned (.bool (same t u)) ∧ Below w.heap.size w w'

set_option maxRecDepth 100000 in
set_option maxHeartbeats 4000000 in
theorem tsKid_any {N : Nat} (ih : tsC N) (a b : K) (hc : count a.2 ≤ N) (h1 : msz a.2 ≤ 1048576) (h2 : msz b.2 ≤ 1048576) (x y : KdV) (w : World) (hx1 : x.1 = a.1) (hx2 : NodeV w x.2 a.2) (hy1 : y.1 = b.1) (hy2 : NodeV w y.2 b.2) :
    Calls Tryd.prog 80 #[.agg (kdC x), .agg (kdC y)] w fun e w' => e = .returned (.bool (decide (a = b))) ∧ Below w.heap.size w w' := by
  have HIH := Lib.hid ih
  have HX := Lib.hid hx2
  have HY := Lib.hid hy2
  have HN := Lib.hid (And.intro hx1 hy1)
  clear ih hx2 hy2 hx1 hy1
  go_enter Tryd.func80, Tryd.ntmps80
  by_cases hn : a.1 = b.1
  · have HS := Lib.hid (show decide (x.1 = y.1) = true by rw [HN.out.1, HN.out.2]; simpa using hn)
    have HR := Lib.hid (show decide (a = b) = same a.2 b.2 by
      rw [same_dec]
      obtain ⟨n, t⟩ := a; obtain ⟨m, u⟩ := b
      have hn : n = m := hn
      simp [hn])
    clear hn
    go_wp2_with (first | (refine Agg.wpList_box rfl 51 _ rfl (kdC x) rfl ?_; intro g2 w1 hb hx hg; have HB1 := Lib.hid hb; have HX1 := Lib.hid hx; clear hb hx hg) | (refine Agg.wpList_box rfl 51 _ rfl (kdC y) rfl ?_; intro g3 w2 hb hx hg; have HB2 := Lib.hid (HB1.out.below hx); have HC2 := Lib.hid hb; have HX2 := Lib.hid (Agg.belowThen HX1.out (Nat.le_refl _) hx); clear hb hx hg) | (with_reducible refine Agg.wpList_loadL (KdB.of HB2.out).1 rfl _ rfl rfl ?_) | (with_reducible refine Agg.wpList_loadL (KdB.of HC2.out).1 rfl _ rfl rfl ?_) | (with_reducible refine Agg.wpList_loadL (KdB.of HB2.out).2 rfl _ rfl rfl ?_) | (with_reducible refine Agg.wpList_loadL (KdB.of HC2.out).2 rfl _ rfl rfl ?_) | (with_reducible refine wpList_eqlS rfl rfl rfl rfl true HS.out ?_))
    refine (HIH.out a.2 b.2 hc h1 h2 (.agg (ndC x.2)) (.agg (ndC y.2)) w2 ⟨_, rfl, HX.out.below HX2.out⟩ ⟨_, rfl, HY.out.below HX2.out⟩).mono ?_
    rintro e w3 ⟨rfl, hx⟩
    have HX3 := Lib.hid (Agg.belowThen HX2.out (Nat.le_refl _) hx)
    clear hx
    go_wp2_with fail
    go_ret
    exact ⟨ret_bool HR.out.symm, HX3.out⟩
  · have HS := Lib.hid (show decide (x.1 = y.1) = false by rw [HN.out.1, HN.out.2]; simpa using hn)
    have HR := Lib.hid (show decide (a = b) = false by simp; intro e; exact hn (by rw [e]))
    clear hn
    go_wp2_with (first | (refine Agg.wpList_box rfl 51 _ rfl (kdC x) rfl ?_; intro g2 w1 hb hx hg; have HB1 := Lib.hid hb; have HX1 := Lib.hid hx; clear hb hx hg) | (refine Agg.wpList_box rfl 51 _ rfl (kdC y) rfl ?_; intro g3 w2 hb hx hg; have HB2 := Lib.hid (HB1.out.below hx); have HC2 := Lib.hid hb; have HX2 := Lib.hid (Agg.belowThen HX1.out (Nat.le_refl _) hx); clear hb hx hg) | (with_reducible refine Agg.wpList_loadL (KdB.of HB2.out).1 rfl _ rfl rfl ?_) | (with_reducible refine Agg.wpList_loadL (KdB.of HC2.out).1 rfl _ rfl rfl ?_) | (with_reducible refine wpList_eqlS rfl rfl rfl rfl false HS.out ?_))
    go_ret
    exact ⟨ret_bool HR.out.symm, HX2.out⟩

set_option maxRecDepth 100000 in
set_option maxHeartbeats 8000000 in
theorem tsKids_any {N : Nat} (ih : tsC N) (l m : List K) (hc : ∀ x ∈ l, count x.2 ≤ N) (h1 : mszL l ≤ 1048576) (h2 : mszL m ≤ 1048576) (ks js : List KdV) (v1 v2 : Value) (w : World) (hs1 : SliceOf EK w v1 ks) (hk1 : KidsV w ks l) (hs2 : SliceOf EK w v2 js) (hk2 : KidsV w js m) :
    Calls Tryd.prog 79 #[v1, v2, .func (.func 80) #[] #[]] w fun e w' => e = .returned (.bool (sameL l m)) ∧ Below w.heap.size w w' := by
  have hl1 := hk1.len
  have hl2 := hk2.len
  have hlen1 := kds_len hs1
  have hlen2 := kds_len hs2
  rw [hl1] at hlen1
  rw [hl2] at hlen2
  have hb1 := Nat.le_trans (len_mszL l) h1
  have hb2 := Nat.le_trans (len_mszL m) h2
  have HIH := Lib.hid ih
  have HS1 := Lib.hid hs1
  have HS2 := Lib.hid hs2
  have HK1 := Lib.hid hk1
  have HK2 := Lib.hid hk2
  have HC := Lib.hid hc
  clear ih hs1 hs2 hk1 hk2 hl1 hl2 hc
  by_cases hlen : l.length = m.length
  · have hne : ((l.length : Int) != (m.length : Int)) = false := by simp [hlen]
    have HLEN := Lib.hid hlen
    clear hlen
    go_enter Tryd.func79, Tryd.ntmps79
    go_wp2_with fail
    go_loopw [17] (fun i wr => ∃ k : Nat, k ≤ l.length ∧ i = .int .i64 (k : Int) ∧ l.take k = m.take k ∧ Below w.heap.size w wr) (fun i _ => l.length - (intOf i).toNat)
    case atStart => exact ⟨0, by omega, rfl, rfl, Below.refl _ _⟩
    case round =>
      obtain ⟨w1, rfl⟩ : ∃ w1 : World, w1 = wr := ⟨_, rfl⟩
      obtain ⟨k, hk, rfl, htk, hw⟩ := hrel
      have HTK := Lib.hid htk
      have HW := Lib.hid hw
      clear htk hw
      by_cases hlt : k < l.length
      · have hd : decide ((k : Int) < (l.length : Int)) = true := by simp; omega
        obtain ⟨a, hak⟩ : ∃ a, l[k]? = some a := ⟨_, List.getElem?_eq_getElem hlt⟩
        obtain ⟨b, hbk⟩ : ∃ b, m[k]? = some b := ⟨_, List.getElem?_eq_getElem (by rw [← HLEN.out]; exact hlt)⟩
        obtain ⟨x, hxk, hx1, hx2⟩ := HK1.out.at_ k a hak
        obtain ⟨y, hyk, hy1, hy2⟩ := HK2.out.at_ k b hbk
        obtain ⟨p, hadr, hle⟩ := kid_at (HS1.out.below HW.out) k x hxk
        obtain ⟨q, hadq, hlq⟩ := kid_at (HS2.out.below HW.out) k y hyk
        have HE := Lib.hid hle.all
        have HQ := Lib.hid hlq.all
        obtain ⟨r, hr⟩ : ∃ r, decide (a = b) = r := ⟨_, rfl⟩
        have HCALL := Lib.hid (fun z : Later w1 => (show Calls Tryd.prog 80 #[.agg (kdC x), .agg (kdC y)] z.w fun e w' => e = .returned (.bool r) ∧ Below z.w.heap.size z.w w' by
          have hZ := Agg.belowThen HW.out (Nat.le_refl _) z.h
          rw [← hr]; exact tsKid_any HIH.out a b (HC.out a (List.mem_of_getElem? hak)) (by have := mem_mszL (List.mem_of_getElem? hak); omega) (by have := mem_mszL (List.mem_of_getElem? hbk); omega) x y z.w hx1 (hx2.below hZ) hy1 (hy2.below hZ)))
        have HRR := Lib.hid hr
        have HAK := Lib.hid hak
        have HBK := Lib.hid hbk
        clear hle hlq hxk hyk hx1 hx2 hy1 hy2 hr hak hbk
        go_wp2_with (first | (with_reducible refine Agg.wpList_loadL HE.out rfl _ rfl rfl ?_) | (refine Agg.wpList_zero rfl 51 rfl (kdC kdZ) kd_zero ?_; intro g8 wz hb hx hg; have HKZ := Lib.hid hb; have HXZ := Lib.hid hx; have HEz := Lib.hid (HE.out.below hx); have HQz := Lib.hid (HQ.out.below hx); have HG8 := Lib.hid hg; clear hb hx hg) | (refine Agg.wpList_put rfl rfl 51 _ _ rfl g8 (kdC x) (kdC kdZ) rfl rfl HKZ.out (kd_info x) rfl (kdC_one x) ?_; intro w2 hb hx hs hk; have HX8 := Lib.hid (show Below w1.heap.size w1 w2 from HXZ.out.trans (hx.mono HG8.out)); have HK8 := Lib.hid hb; clear hb hx hs hk) | (with_reducible refine Agg.wpList_loadL (HQ.out.below HX8.out) rfl _ rfl rfl ?_) | (refine Agg.wpList_new rfl rfl rfl 51 9 25 rfl rfl rfl (by decide) (kdC kdZ) (kdC y) kd_zero rfl (kd_info y) (kdC_one y) rfl (by first | (simp; done) | simp [Act.put]) ?_; intro g9 w3 hb hx hg; have HK9 := Lib.hid hb; have HKa := Lib.hid (HK8.out.below hx); have HX9 := Lib.hid (Agg.belowThen HX8.out (Nat.le_refl _) hx); have HLx := Lib.hid (Blk.loads (P := Tryd.prog) HKa.out kd_under rfl (kd_info x)); have HLy := Lib.hid (Blk.loads (P := Tryd.prog) HK9.out kd_under rfl (kd_info y)); clear hb hx hg) | (with_reducible refine Agg.wpList_loadL HLx.out rfl _ rfl rfl ?_) | (with_reducible refine Agg.wpList_loadL HLy.out rfl _ rfl rfl ?_))
        have HCL := Lib.hid (fun z : Later w3 => HCALL.out ⟨z.w, Agg.belowThen HX9.out (Nat.le_refl _) z.h⟩)
        refine (HCL.out (Later.mk' w3)).mono ?_
        rintro e w4 ⟨rfl, hx⟩
        have HX4 := Lib.hid (Agg.belowThen HW.out (Nat.le_refl _) (Agg.belowThen HX9.out (Nat.le_refl _) hx))
        clear hx
        cases r with
        | false =>
          have HF := Lib.hid (show sameL l m = false by
            rw [sameL_dec, decide_eq_false_iff_not]
            rintro rfl
            have h := HRR.out
            rw [decide_eq_false_iff_not] at h
            exact h (Option.some.inj (HAK.out.symm.trans HBK.out)))
          go_wp2_with fail
          go_ret
          exact ⟨ret_bool HF.out.symm, HX4.out⟩
        | true =>
          have HT := Lib.hid (take_snocE HAK.out HBK.out HTK.out (of_decide_eq_true HRR.out))
          go_wp2_with fail
          go_roundw
          case rel => exact ⟨k + 1, by omega, by go_num, HT.out, HX4.out⟩
          case measure => simp [intOf]; omega
      · obtain rfl : k = l.length := by omega
        have hd : decide (((l.length : Nat) : Int) < ((l.length : Nat) : Int)) = false := by simp
        have HT := Lib.hid (show sameL l m = true by
          have h := HTK.out
          rw [List.take_length, HLEN.out, List.take_length] at h
          rw [sameL_dec, h]; simp)
        go_wp2_with fail
        go_ret
        exact ⟨ret_bool HT.out.symm, HW.out⟩
  · have hne : ((l.length : Int) != (m.length : Int)) = true := by simp; omega
    have HF := Lib.hid (show sameL l m = false by
      rw [sameL_dec, decide_eq_false_iff_not]
      exact fun e => hlen (by rw [e]))
    clear hlen
    go_enter Tryd.func79, Tryd.ntmps79
    go_wp2_with fail
    go_ret
    exact ⟨ret_bool HF.out.symm, Below.refl _ _⟩

set_option maxRecDepth 100000 in
set_option maxHeartbeats 8000000 in
theorem ts_all : ∀ N, tsC N := by
  intro N
  induction N with
  | zero => intro t u h; have := count_pos t; omega
  | succ N ih =>
  intro t u hc h1 h2 v1 v2 w hv1 hv2
  obtain ⟨x, rfl, hx⟩ := hv1
  obtain ⟨y, rfl, hy⟩ := hv2
  obtain ⟨k, a, l⟩ := t
  obtain ⟨j, b, m⟩ := u
  obtain ⟨hxk, hxb, ks, hxs, hxl⟩ := hx
  obtain ⟨hyk, hyb, js, hys, hyl⟩ := hy
  have HXB := Lib.hid hxb
  have HYB := Lib.hid hyb
  have HXS := Lib.hid hxs
  have HYS := Lib.hid hys
  have HXL := Lib.hid hxl
  have HYL := Lib.hid hyl
  have HIH := Lib.hid ih
  have HC := Lib.hid (show ∀ z ∈ l, count z.2 ≤ N from fun z hz => by
    have h3 := countL_mem hz
    simp only [count] at hc
    omega)
  have hab := Nat.le_trans (bytes_msz k a l) h1
  have hbb := Nat.le_trans (bytes_msz j b m) h2
  have hlm1 : mszL l ≤ 1048576 := by simp only [msz] at h1; omega
  have hlm2 : mszL m ≤ 1048576 := by simp only [msz] at h2; omega
  have HK := Lib.hid (And.intro hxk hyk)
  clear hxb hyb hxs hys hxl hyl ih hc hxk hyk
  go_enter Tryd.func52, Tryd.ntmps52
  by_cases hk : x.1 = y.1
  · have hke : (x.1 == y.1) = true := by rw [hk]; simp
    have HKK := Lib.hid (show k = j by rw [← HK.out.1, ← HK.out.2, hk])
    clear hk
    go_wp2_with (first | (refine Agg.wpList_box rfl 26 _ rfl (ndC x) rfl ?_; intro g2 w1 hb hx hg; have HB1 := Lib.hid hb; have HX1 := Lib.hid hx; clear hb hx hg) | (refine Agg.wpList_box rfl 26 _ rfl (ndC y) rfl ?_; intro g3 w2 hb hx hg; have HB2 := Lib.hid (HB1.out.below hx); have HC2 := Lib.hid hb; have HX2 := Lib.hid (Agg.belowThen HX1.out (Nat.le_refl _) hx); clear hb hx hg) | (with_reducible refine Agg.wpList_loadL (NdL.of_blk HB2.out).kind rfl _ rfl rfl ?_) | (with_reducible refine Agg.wpList_loadL (NdL.of_blk HC2.out).kind rfl _ rfl rfl ?_) | (with_reducible refine Agg.wpList_loadL (NdL.of_blk HB2.out).bytes rfl _ rfl rfl ?_) | (with_reducible refine Agg.wpList_loadL (NdL.of_blk HC2.out).bytes rfl _ rfl rfl ?_))
    refine (bytesEqual_any x.2.1.1 y.2.1.1 a b w2 (HXB.out.below HX2.out) (HYB.out.below HX2.out)).mono ?_
    rintro e w3 ⟨rfl, hx⟩
    have HB3 := Lib.hid (HB2.out.below hx)
    have HC3 := Lib.hid (HC2.out.below hx)
    have HX3 := Lib.hid (Agg.belowThen HX2.out (Nat.le_refl _) hx)
    clear hx
    by_cases hab2 : a = b
    · have hd : decide (a = b) = true := by simpa using hab2
      have HAB := Lib.hid hab2
      clear hab2
      rw [hd]
      go_wp2_with (first | (with_reducible refine Agg.wpList_loadL (NdL.of_blk HB3.out).kids rfl _ rfl rfl ?_) | (with_reducible refine Agg.wpList_loadL (NdL.of_blk HC3.out).kids rfl _ rfl rfl ?_))
      refine (tsKids_any HIH.out l m HC.out hlm1 hlm2 ks js x.2.2.1 y.2.2.1 w3 (HXS.out.below HX3.out) (HXL.out.below HX3.out) (HYS.out.below HX3.out) (HYL.out.below HX3.out)).mono ?_
      rintro e w4 ⟨rfl, hx⟩
      have HX4 := Lib.hid (Agg.belowThen HX3.out (Nat.le_refl _) hx)
      have HR := Lib.hid (show same (.mk k a l) (.mk j b m) = sameL l m by simp [same, HKK.out, HAB.out])
      clear hx
      go_wp2_with fail
      go_ret
      exact ⟨ret_bool HR.out.symm, HX4.out⟩
    · have hd : decide (a = b) = false := by simpa using hab2
      have HR := Lib.hid (show same (.mk k a l) (.mk j b m) = false by simp [same, hab2])
      clear hab2
      rw [hd]
      go_wp2_with fail
      go_ret
      exact ⟨ret_bool HR.out.symm, HX3.out⟩
  · have hke : (x.1 == y.1) = false := by simpa using hk
    have HR := Lib.hid (show same (.mk k a l) (.mk j b m) = false by
      have : ¬ k = j := fun e => hk (by rw [HK.out.1, HK.out.2, e])
      simp [same, this])
    clear hk
    go_wp2_with (first | (refine Agg.wpList_box rfl 26 _ rfl (ndC x) rfl ?_; intro g2 w1 hb hx hg; have HB1 := Lib.hid hb; have HX1 := Lib.hid hx; clear hb hx hg) | (refine Agg.wpList_box rfl 26 _ rfl (ndC y) rfl ?_; intro g3 w2 hb hx hg; have HB2 := Lib.hid (HB1.out.below hx); have HC2 := Lib.hid hb; have HX2 := Lib.hid (Agg.belowThen HX1.out (Nat.le_refl _) hx); clear hb hx hg) | (with_reducible refine Agg.wpList_loadL (NdL.of_blk HB2.out).kind rfl _ rfl rfl ?_) | (with_reducible refine Agg.wpList_loadL (NdL.of_blk HC2.out).kind rfl _ rfl rfl ?_) | (with_reducible refine Agg.wpList_loadL (NdL.of_blk HB2.out).bytes rfl _ rfl rfl ?_) | (with_reducible refine Agg.wpList_loadL (NdL.of_blk HC2.out).bytes rfl _ rfl rfl ?_))
    go_ret
    exact ⟨ret_bool HR.out.symm, HX2.out⟩

theorem sameNode_any (t u : T) (h1 : msz t ≤ 1048576) (h2 : msz u ≤ 1048576) (v1 v2 : Value) (w : World) (hv1 : NodeAt w v1 t) (hv2 : NodeAt w v2 u) :
    Calls Tryd.prog 16 #[v1, v2] w fun e w' => e = .returned (.bool (same t u)) ∧ Below w.heap.size w w' := sn_all (count t) t u (Nat.le_refl _) h1 h2 v1 v2 w hv1 hv2
theorem right_msz {t : T} (h : right t = true) : msz t ≤ 500000 := by
  have key : ∀ (N : Nat) (t : T), count t ≤ N → ok t = true → msz t + 25 ≤ 2100 * count t := by
    intro N
    induction N with
    | zero => intro t h; have := count_pos t; omega
    | succ N ih =>
      intro t hc hok
      obtain ⟨k, b, l⟩ := t
      have ha : alone (.mk k b l) = true := by simp only [ok, Bool.and_eq_true] at hok; exact hok.1
      have hk := kids_ok hok
      rw [show (T.mk k b l).kids = l from rfl] at hk
      rcases alone_cases ha with ⟨rfl, rfl, _, hnm⟩ | ⟨_, _, _, hb, rfl⟩
      · have hL : ∀ (m : List K), (∀ x ∈ m, count x.2 ≤ N ∧ ok x.2 = true ∧ x.1.length ≤ 24) → mszL m ≤ 2100 * countL m := by
          intro m
          induction m with
          | nil => intro _; simp [mszL]
          | cons x m ihm =>
            intro hm
            obtain ⟨n, t⟩ := x
            have h1 := hm (n, t) (by simp)
            have h2 := ih t h1.1 h1.2.1
            have h3 := ihm (fun x hx => hm x (by simp [hx]))
            have h4 : n.length ≤ 24 := h1.2.2
            simp only [mszL, countL]; omega
        have := hL l (fun x hx => ⟨by have := countL_mem hx; simp only [count] at hc; omega, okL_mem hk hx, name_le (named_all l none hnm x hx)⟩)
        simp only [msz, count, List.length_nil]; omega
      · simp only [msz, mszL, count, countL]; omega
  obtain ⟨h1, h2, _⟩ := look_parts h
  have := key (count t) t (Nat.le_refl _) h1
  omega
set_option maxRecDepth 100000 in
set_option maxHeartbeats 4000000 in
theorem equal_any (t u : T) (v1 v2 : Value) (w : World) (hv1 : NodeAt w v1 t) (hv2 : NodeAt w v2 u) :
    Calls Tryd.prog 24 #[v1, v2] w fun e w' => e = .returned (.bool (right t && (right u && same t u))) ∧ Below w.heap.size w w' := by
  obtain ⟨x, rfl, hx⟩ := hv1
  obtain ⟨y, rfl, hy⟩ := hv2
  have HX := Lib.hid hx
  have HY := Lib.hid hy
  clear hx hy
  go_enter Tryd.func24, Tryd.ntmps24
  go_wp2_with (first | (refine Agg.wpList_box rfl 26 _ rfl (ndC x) rfl ?_; intro g2 w1 hb hx hg; have HB1 := Lib.hid hb; have HX1 := Lib.hid hx; clear hb hx hg) | (refine Agg.wpList_box rfl 26 _ rfl (ndC y) rfl ?_; intro g3 w2 hb hx hg; have HB2 := Lib.hid (HB1.out.below hx); have HC2 := Lib.hid hb; have HX2 := Lib.hid (Agg.belowThen HX1.out (Nat.le_refl _) hx); clear hb hx hg) | (with_reducible refine Agg.wpList_loadL (NdL.of_blk HB2.out).all rfl _ rfl rfl ?_))
  refine (tright_any (.agg (ndC x)) t w2 ⟨x, rfl, HX.out.below HX2.out⟩).mono ?_
  rintro e w3 ⟨rfl, hx⟩
  have HB3 := Lib.hid (HB2.out.below hx)
  have HC3 := Lib.hid (HC2.out.below hx)
  have HX3 := Lib.hid (Agg.belowThen HX2.out (Nat.le_refl _) hx)
  clear hx
  cases hr : right t with
  | false =>
    have HRF := Lib.hid hr
    clear hr
    go_wp2_with fail
    go_ret
    exact ⟨by rw [HRF.out]; rfl, HX3.out⟩
  | true =>
    have HRT := Lib.hid hr
    clear hr
    go_wp2_with (first | (with_reducible refine Agg.wpList_loadL (NdL.of_blk HC3.out).all rfl _ rfl rfl ?_))
    refine (tright_any (.agg (ndC y)) u w3 ⟨y, rfl, HY.out.below HX3.out⟩).mono ?_
    rintro e w4 ⟨rfl, hx⟩
    have HB4 := Lib.hid (HB3.out.below hx)
    have HC4 := Lib.hid (HC3.out.below hx)
    have HX4 := Lib.hid (Agg.belowThen HX3.out (Nat.le_refl _) hx)
    clear hx
    cases hr : right u with
    | false =>
      have HRF := Lib.hid hr
      clear hr
      go_wp2_with fail
      go_ret
      exact ⟨by rw [HRT.out, HRF.out]; rfl, HX4.out⟩
    | true =>
      have h1 := right_msz HRT.out
      have h2 := right_msz hr
      have HRU := Lib.hid hr
      clear hr
      go_wp2_with (first | (with_reducible refine Agg.wpList_loadL (NdL.of_blk HB4.out).all rfl _ rfl rfl ?_) | (with_reducible refine Agg.wpList_loadL (NdL.of_blk HC4.out).all rfl _ rfl rfl ?_))
      refine (ts_all (count t) t u (Nat.le_refl _) (by omega) (by omega) (.agg (ndC x)) (.agg (ndC y)) w4 ⟨x, rfl, HX.out.below HX4.out⟩ ⟨y, rfl, HY.out.below HX4.out⟩).mono ?_
      rintro e w5 ⟨rfl, hx⟩
      have HX5 := Lib.hid (Agg.belowThen HX4.out (Nat.le_refl _) hx)
      clear hx
      go_wp2_with fail
      go_ret
      exact ⟨by rw [HRT.out, HRU.out]; rfl, HX5.out⟩
end Go.Proofs.YtfiadgdinhmgbaaDoor
