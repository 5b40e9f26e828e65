/- spencekit.OverKids. (Several texts in one.) -/
import Derived.Test.YtfiadgdinhmgbaaDoorHBS
import Derived.Test.YtfiadgdinhmgbaaDoorHAD
import Derived.Test.YtfiadgdinhmgbaaDoorHAF
import Derived.Test.YtfiadgdinhmgbaaDoorHAQ
import Derived.Test.YtfiadgdinhmgbaaDoorHAI
/-! spencekit.KeptKid, KeptKids, KeptNode. -/
namespace Go.Proofs.YtfiadgdinhmgbaaDoor
open Go.RowKit Pl Go.Agg Go.Tr
theorem LentO.lent0 {α : Type} {E : Elem Tryd.prog α} {M l : List α} {base : Nat} {w : World} {u : Value} (h : LentO E M base w u l) (hM : 0 < M.length) : Lent E M base w u l := LentO.lent h hM
def KepC (N : Nat) : Prop := ∀ (t : T) (_ : count t ≤ N) (_ : msz t ≤ 1048576) (x y : NdV) (bs : List Nat) (base : Nat) (w : World) (_ : LenT base w x t bs) (_ : NodeV w y t),
 Calls Tryd.prog 18 #[.agg (ndC x), .agg (ndC y)] w fun e w' => e = .returned (.bool true) ∧ Below w.heap.size w w'
set_option maxRecDepth 100000 in
set_option maxHeartbeats 4000000 in
theorem keptKid_any {N : Nat} (ih : KepC N) (x y : KdV) (z : K) (hc : count z.2 ≤ N) (hm : msz z.2 ≤ 1048576) (hx1 : x.1 = z.1) (hy1 : y.1 = z.1) (bs : List Nat) (base : Nat) (w : World) (hx2 : LenT base w x.2 z.2 bs) (hy2 : NodeV w y.2 z.2) :
  Calls Tryd.prog 73 #[.agg (kdC x), .agg (kdC y)] w fun e w' => e = .returned (.bool true) ∧ Below w.heap.size w w' := by
 have HSK := Lib.hid (fun W (hW : Below w.heap.size w W) => show Calls Tryd.prog 71 #[.agg (kdC x), .agg (kdC y)] W fun e w' => e = .returned (.bool true) ∧ Below W.heap.size W w' by
  have h := snKid_any (sn_all (count z.2)) z z (Nat.le_refl _) hm hm x y W hx1 (NodeV.below hW _ _ (LenT.reads _ _ _ hx2)) hy1 (NodeV.below hW _ _ hy2)
  rwa [decide_eq_true (rfl : z = z)] at h)
 have HKN := Lib.hid (fun W (hW : Below w.heap.size w W) => ih z.2 hc hm x.2 y.2 bs base W (hx2.below hW) (NodeV.below hW _ _ hy2))
 clear hx2 hy2 ih
 go_enter Tryd.func73, Tryd.ntmps73
 go_wp2_with (first | (refine wpList_box rfl 51 _ rfl (kdC x) rfl ?_; intro g1 w1 hb hx hg; have HA1 := Lib.hid hb; have HX1 := Lib.hid hx; clear hb hx hg) | (refine wpList_box rfl 51 _ rfl (kdC y) rfl ?_; intro g2 w2 hb hx hg; have HB2 := Lib.hid hb; have HA2 := Lib.hid (HA1.out.below hx); have HX2 := Lib.hid (belowThen HX1.out (Nat.le_refl _) hx); clear hb hx hg) | (with_reducible refine wpList_loadL (KdL.of_blk HA2.out).all rfl _ rfl rfl ?_) | (with_reducible refine wpList_loadL (KdL.of_blk HB2.out).all rfl _ rfl rfl ?_))
 refine (HSK.out _ HX2.out).mono ?_
 rintro e w3 ⟨rfl, hx⟩
 have HA3 := Lib.hid (HA2.out.below hx)
 have HB3 := Lib.hid (HB2.out.below hx)
 have HX3 := Lib.hid (belowThen HX2.out (Nat.le_refl _) hx)
 clear hx
 go_wp2_with (first | (with_reducible refine wpList_loadL (kid_node HA3.out) rfl _ rfl rfl ?_) | (with_reducible refine wpList_loadL (kid_node HB3.out) rfl _ rfl rfl ?_))
 refine (HKN.out _ HX3.out).mono ?_
 rintro e w4 ⟨rfl, hx⟩
 have HX4 := Lib.hid (belowThen HX3.out (Nat.le_refl _) hx)
 clear hx
 go_wp2_with fail
 go_ret
 exact ⟨rfl, HX4.out⟩
theorem nodeV_zero (w : World) : NodeV w ndZ (.mk 0 [] []) := ⟨rfl, SliceOf.nil _ _ _, [], SliceOf.nil _ _ _, trivial⟩
theorem markKid_off (k n : Nat) (hk : n ≤ k) (w : World) : Calls Tryd.prog 60 #[.int .i64 1, .int .i64 ((k : Int) - (n : Int))] w fun e w' => e = .returned (.agg (kdC (mkT 1 (k - n), ndZ))) ∧ Below w.heap.size w w' := by
 rw [show ((k : Int) - (n : Int)) = ((k - n : Nat) : Int) by omega]
 exact markKid_any 1 (k - n) w
set_option maxRecDepth 100000 in
set_option maxHeartbeats 8000000 in
theorem keptKids_any {N : Nat} (ih : KepC N) (l : List K) (hcn : ∀ x ∈ l, count x.2 ≤ N) (hm : mszL l ≤ 1048576) (u v : Value) (lv ks : List KdV) (cs : List Nat) (base : Nat) (w : World) (hu : LentO EK (marksG mkK 1 12) base w u lv) (hl : LenL base w lv l cs) (hs : SliceOf EK w v ks) (hkv : KidsV w ks l) :
  Calls Tryd.prog 49 #[u, v] w fun e w' => e = .returned (.bool true) ∧ Below w.heap.size w w' := by
 have hlen := (LenL.reads _ _ _ hl).len
 have hkl := hkv.len
 have hlv := fun W => kds_len hs W
 rw [hkl] at hlv
 have hll : l.length ≤ 1048576 := Nat.le_trans (len_mszL l) hm
 have HS := Lib.hid hs
 have HKV := Lib.hid hkv
 have HL := Lib.hid hl
 have HIH := Lib.hid ih
 have HC := Lib.hid hcn
 have HM := Lib.hid (fun x (hx : x ∈ l) => show msz x.2 ≤ 1048576 by have := mem_mszL hx; omega)
 obtain ⟨g, cap, rfl, _, hcap, ha⟩ := hu.lent0 (by rw [marksG_length]; omega)
 rw [marksG_length] at hcap ha
 rw [hlen] at hcap ha
 have HA := Lib.hid ha
 clear hs hkv hl ih hcn hm ha hu
 simp only [hlen]
 have hne : ((l.length : Int) != (l.length : Int)) = false := by simp
 go_enter Tryd.func49, Tryd.ntmps49
 go_wp2_with fail
 go_loopw [6] (fun i wr => ∃ k : Nat, k ≤ l.length + 12 ∧ i = .int .i64 (k : Int) ∧ Below w.heap.size w wr) (fun i _ => l.length + 12 - (intOf i).toNat)
 case atStart => exact ⟨0, by omega, rfl, Below.refl _ _⟩
 case round =>
  obtain ⟨w1, rfl⟩ : ∃ w1 : World, w1 = wr := ⟨_, rfl⟩
  obtain ⟨k, hk, rfl, hw⟩ := hrel
  have HW := Lib.hid hw
  clear hw
  by_cases hlt : k < l.length + 12
  ·by_cases hlt2 : k < l.length
   ·obtain ⟨z, hzk⟩ : ∃ z, l[k]? = some z := ⟨_, List.getElem?_eq_getElem hlt2⟩
    obtain ⟨y, hyk, hyz, hyn⟩ := HKV.out.at_ k z hzk
    obtain ⟨x, bs, hxk, hxz, hxn⟩ := LenL.at_ k z HL.out hzk
    have hin := List.mem_of_getElem? hzk
    obtain ⟨pv, hadv, hldv⟩ := kid_at (HS.out.below HW.out) k y hyk
    obtain ⟨pa, hadp, hlda⟩ := kid_at (SliceOf.below HA.out HW.out) k x (by rw [List.getElem?_append_left (by omega)]; exact hxk)
    have HLA := Lib.hid hlda.all
    have HLV := Lib.hid hldv.all
    have hcz := HC.out z hin
    have hmz := HM.out z hin
    have HKB := Lib.hid (fun q : Later w1 => keptKid_any HIH.out x y z hcz hmz hxz hyz bs base q.w ((hxn.below HW.out).below q.h) (NodeV.below q.h _ _ (NodeV.below HW.out _ _ hyn)))
    have hd1 : decide ((k : Int) < (l.length : Int)) = true := decide_eq_true (by omega)
    have hd3 : decide (l.length ≤ k) = false := decide_eq_false (by omega)
    clear hyk hxk hxz hyz hldv hlda hxn hyn hzk hin hcz hmz
    go_wp2_with fail
    try simp only [List.append_eq, List.cons_append, List.nil_append]
    try simp only [Act.put, List.setIfInBounds_toArray, List.set_cons_succ, List.set_cons_zero]
    refine wp_region_later_lit (by kernel_rfl) (by kernel_rfl) ?_
    repeat (first | go_big_quiet_skip | ((first | (with_reducible refine wpQuiet_loadL HLA.out rfl _ rfl rfl ?_) | (with_reducible refine wpQuiet_loadL HLV.out rfl _ rfl rfl ?_)); simp only [Act.put, List.setIfInBounds_toArray, List.set_cons_succ, List.set_cons_zero]) | go_big_quiet_step ((first | (go_at_call 73; exact Calls.later (HKB.out _)))))
    refine wpQuiet_nil ?_
    intro _ hw'
    obtain ⟨x1, rfl⟩ := hw'
    go_wp2_with fail
    go_roundw
    case rel => exact ⟨k + 1, by omega, by go_num, belowThen HW.out (Nat.le_refl _) x1.h⟩
    case measure => simp [intOf]; omega
   ·obtain ⟨m, hmm⟩ : ∃ m, m = mkT 1 (k - l.length) := ⟨_, rfl⟩
    obtain ⟨pa, hadp, hlda⟩ := kid_at (SliceOf.below HA.out HW.out) k (m, ndZ) (by rw [List.getElem?_append_right (by omega), hlen, hmm]; exact marksG_get mkK _ _ _ (by omega))
    have HLA := Lib.hid hlda.all
    have HMN := Lib.hid (fun q : Later w1 => (show Calls Tryd.prog 60 #[.int .i64 1, .int .i64 ((k : Int) - (l.length : Int))] q.w fun e w' => e = .returned (.agg (kdC (m, ndZ))) ∧ Below q.w.heap.size q.w w' by rw [hmm]; exact markKid_off k l.length (by omega) q.w))
    have hml : msz (.mk 0 [] []) ≤ 1048576 := by decide +kernel
    have HSB := Lib.hid (fun q : Later w1 => (show Calls Tryd.prog 71 #[.agg (kdC (m, ndZ)), .agg (kdC (m, ndZ))] q.w fun e w' => e = .returned (.bool true) ∧ Below q.w.heap.size q.w w' by
     have h := snKid_any (sn_all (count (.mk 0 [] []))) (m, .mk 0 [] []) (m, .mk 0 [] []) (Nat.le_refl _) hml hml (m, ndZ) (m, ndZ) q.w rfl (nodeV_zero _) rfl (nodeV_zero _)
     rwa [decide_eq_true rfl] at h))
    have hd1 : decide ((k : Int) < (l.length : Int)) = false := decide_eq_false (by omega)
    have hd3 : decide (l.length ≤ k) = true := decide_eq_true (by omega)
    clear hlda hmm hml
    go_wp2_with fail
    try simp only [List.append_eq, List.cons_append, List.nil_append]
    try simp only [Act.put, List.setIfInBounds_toArray, List.set_cons_succ, List.set_cons_zero]
    refine wp_region_later_lit (by kernel_rfl) (by kernel_rfl) ?_
    repeat (first | go_big_quiet_skip | ((first | (with_reducible refine wpQuiet_loadL HLA.out rfl _ rfl rfl ?_)); simp only [Act.put, List.setIfInBounds_toArray, List.set_cons_succ, List.set_cons_zero]) | go_big_quiet_step ((first | (go_at_call 60; exact Calls.later (HMN.out _)) | (go_at_call 71; exact Calls.later (HSB.out _)))))
    refine wpQuiet_nil ?_
    intro _ hw'
    obtain ⟨x1, rfl⟩ := hw'
    go_wp2_with fail
    go_roundw
    case rel => exact ⟨k + 1, by omega, by go_num, belowThen HW.out (Nat.le_refl _) x1.h⟩
    case measure => simp [intOf]; omega
  ·obtain rfl : k = l.length + 12 := by omega
   go_wp2_with fail
   go_ret
   exact ⟨rfl, HW.out⟩
set_option maxRecDepth 100000 in
set_option maxHeartbeats 4000000 in
theorem keptNode_of {N : Nat} (ih : KepC N) : KepC (N + 1) := by
 intro t hc hm x y bs base w hx hy
 have HSN := Lib.hid (fun W (hW : Below w.heap.size w W) => show Calls Tryd.prog 16 #[.agg (ndC x), .agg (ndC y)] W fun e w' => e = .returned (.bool true) ∧ Below W.heap.size W w' by
  have h := sameNode_any t t hm hm (.agg (ndC x)) (.agg (ndC y)) W ⟨x, rfl, NodeV.below hW _ _ (LenT.reads _ _ _ hx)⟩ ⟨y, rfl, NodeV.below hW _ _ hy⟩
  rwa [(same_iff t t).2 rfl] at h)
 obtain ⟨k, b, l⟩ := t
 have hbl : b.length ≤ 1048576 := Nat.le_trans (bytes_msz k b l) hm
 have hml : mszL l ≤ 1048576 := by simp only [msz] at hm; omega
 obtain ⟨hk, hxb, lv, cs, hxk, hxl, _⟩ := hx
 obtain ⟨hk2, hyb, ks, hyk, hyl⟩ := hy
 have HKB := Lib.hid (fun W (hW : Below w.heap.size w W) => keptBytes_any x.2.1.1 y.2.1.1 b hbl base W ((hxb.below hW).lent0 (by rw [marks_length]; omega)) (SliceOf.below hyb hW))
 have HKK := Lib.hid (fun W (hW : Below w.heap.size w W) => keptKids_any ih l (fun x hx => by have h1 := countL_mem hx; simp only [count] at hc; omega) hml x.2.2.1 y.2.2.1 lv ks cs base W (hxk.below hW) (hxl.below hW) (SliceOf.below hyk hW) (KidsV.below hW _ _ hyl))
 clear hxb hxk hxl hyb hyk hyl ih hc hm
 go_enter Tryd.func18, Tryd.ntmps18
 go_wp2_with (first | (refine wpList_box rfl 26 _ rfl (ndC x) rfl ?_; intro g1 w1 hb hx hg; have HA1 := Lib.hid hb; have HX1 := Lib.hid hx; clear hb hx hg) | (refine wpList_box rfl 26 _ rfl (ndC y) rfl ?_; intro g2 w2 hb hx hg; have HB2 := Lib.hid hb; have HA2 := Lib.hid (HA1.out.below hx); have HX2 := Lib.hid (belowThen HX1.out (Nat.le_refl _) hx); clear hb hx hg) | (with_reducible refine wpList_loadL (NdL.of_blk HA2.out).all rfl _ rfl rfl ?_) | (with_reducible refine wpList_loadL (NdL.of_blk HB2.out).all rfl _ rfl rfl ?_))
 refine (HSN.out _ HX2.out).mono ?_
 rintro e w3 ⟨rfl, hx⟩
 have HA3 := Lib.hid (HA2.out.below hx)
 have HB3 := Lib.hid (HB2.out.below hx)
 have HX3 := Lib.hid (belowThen HX2.out (Nat.le_refl _) hx)
 clear hx
 go_wp2_with (first | (with_reducible refine wpList_loadL (NdL.of_blk HA3.out).bytes rfl _ rfl rfl ?_) | (with_reducible refine wpList_loadL (NdL.of_blk HB3.out).bytes rfl _ rfl rfl ?_))
 refine (HKB.out _ HX3.out).mono ?_
 rintro e w4 ⟨rfl, hx⟩
 have HA4 := Lib.hid (HA3.out.below hx)
 have HB4 := Lib.hid (HB3.out.below hx)
 have HX4 := Lib.hid (belowThen HX3.out (Nat.le_refl _) hx)
 clear hx
 go_wp2_with (first | (with_reducible refine wpList_loadL (NdL.of_blk HA4.out).kids rfl _ rfl rfl ?_) | (with_reducible refine wpList_loadL (NdL.of_blk HB4.out).kids rfl _ rfl rfl ?_))
 refine (HKK.out _ HX4.out).mono ?_
 rintro e w5 ⟨rfl, hx⟩
 have HX5 := Lib.hid (belowThen HX4.out (Nat.le_refl _) hx)
 clear hx
 go_wp2_with fail
 go_ret
 exact ⟨rfl, HX5.out⟩
theorem keptNode_all : ∀ N, KepC N
 | 0 => fun t hc => by have := count_pos t; omega
 | N + 1 => keptNode_of (keptNode_all N)
end Go.Proofs.YtfiadgdinhmgbaaDoor
/-! spencekit.OverBytes: the bytes of a slice of one's own, written over. -/
namespace Go.Proofs.YtfiadgdinhmgbaaDoor
open Go.RowKit Pl Go.Agg
theorem overB_at (g m cap k : Nat) (hk : k < m) (W : World) : (Instr.indexAt 23 (.slice (some ⟨g, 0, none⟩) m cap) (.int .i64 (k : Int))).run Tryd.prog W = .ok (.pointer (some ⟨g, k, none⟩)) W := by
 have hel : Tryd.prog.elem 23 = 5 := by kernel_rfl
 have hsz : ∀ W, (Go.sizeOf 5).run Tryd.prog W = .ok 1 W := fun W => by kernel_rfl
 rw [run_indexAt_slice W 23 _ m cap .i64 (k : Int) (by rw [hel]; kernel_rfl), if_pos (by omega), hel, hsz]
 simp [Result.andThen, Addr.add]
 rcases k with _ | k <;> simp
set_option maxRecDepth 100000 in
set_option maxHeartbeats 4000000 in
theorem overBytes_any (v : Value) (l : List UInt8) (base : Nat) (hl : l.length ≤ 1048576) (w : World) (h : Own EB base w v l) :
  Calls Tryd.prog 46 #[v] w fun e w' => (∃ r, e = .returned r) ∧ Only (fun k => v.ownBlock = some k) w w' := by
 obtain ⟨_, ⟨rfl, _⟩ | ⟨g, cap, cur, rfl, hg, hc, hnc, hcm, hsz, _⟩⟩ := h
 ·go_enter Tryd.func46, Tryd.ntmps46
  go_wp2_with fail
  go_loopw [3] (fun i wr => i = .int .i64 0 ∧ wr = w) (fun _ _ => 0)
  case atStart => exact ⟨rfl, rfl⟩
  case round =>
   obtain ⟨rfl, rfl⟩ := hrel
   go_wp2_with fail
   refine bodyPost_end (results_none rfl _ _ _) rfl ?_
   exact ⟨⟨_, rfl⟩, Only.refl _ _⟩
 ·have hb0 : Blk w g 5 cur := hc
  have hs0 : cur.size = cap := by rw [hsz]; exact Nat.mul_one _
  clear hc hsz
  by_cases hcl : cap ≤ l.length + 12
  ·have hci : (cap : Int) ≤ (l.length : Int) + 12 := by omega
   go_enter Tryd.func46, Tryd.ntmps46
   go_wp2_with fail
   go_loopw [3] (fun i wr => ∃ (k : Nat) (cs : Array Value), k ≤ cap ∧ i = .int .i64 (k : Int) ∧ Blk wr g 5 cs ∧ cs.size = cap ∧ Only (· = g) w wr) (fun i _ => cap - (intOf i).toNat)
   case atStart => exact ⟨0, cur, by omega, rfl, hb0, hs0, Only.refl _ _⟩
   case round =>
    obtain ⟨wr1, rfl⟩ : ∃ y : World, y = wr := ⟨_, rfl⟩
    obtain ⟨k, cs, hk, rfl, hb, hs, ho⟩ := hrel
    have HB := Lib.hid hb
    have HS := Lib.hid hs
    have HO := Lib.hid ho
    clear hb hs ho
    by_cases hlt : k < cap
    ·have hd1 : decide ((k : Int) < (cap : Int)) = true := by simp; omega
     have hia := overB_at g (cap) cap k hlt
     go_wp2_with fail
     refine (markByte_any 2 k (by omega) (by omega) wr1).mono ?_
     rintro e w2 ⟨rfl, rfl⟩
     obtain ⟨w3, hr3, hb3, ho3⟩ := Blk.run_one (P := Tryd.prog) (ty := 5) HB.out k (by rw [HS.out]; omega) (.int .u8 ((mkB 2 k).toNat : Int)) rfl rfl (by kernel_rfl) _ rfl
     have HR3 := Lib.hid hr3
     have HB3 := Lib.hid hb3
     have HO3 := Lib.hid (HO.out.trans ho3 (fun _ _ h => h))
     clear hr3 hb3 ho3
     go_wp2_with (first | (refine wpList_store rfl rfl 5 _ _ rfl (.pointer (some ⟨g, k, none⟩)) (.int .u8 ((mkB 2 k).toNat : Int)) rfl rfl HR3.out ?_))
     go_roundw
     case rel => exact ⟨k + 1, _, by omega, by go_num, HB3.out, by rw [Array.size_setIfInBounds, HS.out], HO3.out⟩
     case measure => simp [intOf]; omega
    ·obtain rfl : k = cap := by omega
     go_wp2_with fail
     refine bodyPost_end (results_none rfl _ _ _) rfl ?_
     exact ⟨⟨_, rfl⟩, HO.out.mono (fun i _ h => by subst h; rfl)⟩
  ·have hci : ¬ (cap : Int) ≤ (l.length : Int) + 12 := by omega
   go_enter Tryd.func46, Tryd.ntmps46
   go_wp2_with fail
   go_loopw [3] (fun i wr => ∃ (k : Nat) (cs : Array Value), k ≤ l.length + 12 ∧ i = .int .i64 (k : Int) ∧ Blk wr g 5 cs ∧ cs.size = cap ∧ Only (· = g) w wr) (fun i _ => l.length + 12 - (intOf i).toNat)
   case atStart => exact ⟨0, cur, by omega, rfl, hb0, hs0, Only.refl _ _⟩
   case round =>
    obtain ⟨wr1, rfl⟩ : ∃ y : World, y = wr := ⟨_, rfl⟩
    obtain ⟨k, cs, hk, rfl, hb, hs, ho⟩ := hrel
    have HB := Lib.hid hb
    have HS := Lib.hid hs
    have HO := Lib.hid ho
    clear hb hs ho
    by_cases hlt : k < l.length + 12
    ·have hd1 : decide ((k : Int) < ((l.length + 12 : Nat) : Int)) = true := by simp; omega
     have hia := overB_at g (l.length + 12) cap k hlt
     go_wp2_with fail
     refine (markByte_any 2 k (by omega) (by omega) wr1).mono ?_
     rintro e w2 ⟨rfl, rfl⟩
     obtain ⟨w3, hr3, hb3, ho3⟩ := Blk.run_one (P := Tryd.prog) (ty := 5) HB.out k (by rw [HS.out]; omega) (.int .u8 ((mkB 2 k).toNat : Int)) rfl rfl (by kernel_rfl) _ rfl
     have HR3 := Lib.hid hr3
     have HB3 := Lib.hid hb3
     have HO3 := Lib.hid (HO.out.trans ho3 (fun _ _ h => h))
     clear hr3 hb3 ho3
     go_wp2_with (first | (refine wpList_store rfl rfl 5 _ _ rfl (.pointer (some ⟨g, k, none⟩)) (.int .u8 ((mkB 2 k).toNat : Int)) rfl rfl HR3.out ?_))
     go_roundw
     case rel => exact ⟨k + 1, _, by omega, by go_num, HB3.out, by rw [Array.size_setIfInBounds, HS.out], HO3.out⟩
     case measure => simp [intOf]; omega
    ·obtain rfl : k = l.length + 12 := by omega
     go_wp2_with fail
     refine bodyPost_end (results_none rfl _ _ _) rfl ?_
     exact ⟨⟨_, rfl⟩, HO.out.mono (fun i _ h => by subst h; rfl)⟩
end Go.Proofs.YtfiadgdinhmgbaaDoor
/-! spencekit.OverKid: a kid's own blocks, written over. -/
namespace Go.Proofs.YtfiadgdinhmgbaaDoor
open Go.RowKit Pl Go.Agg Go.Tr
def OvC (N : Nat) : Prop := ∀ (t : T) (_ : count t ≤ N) (_ : msz t ≤ 1048576) (x : NdV) (bs : List Nat) (base : Nat) (w : World) (_ : OwnT base w x t bs) (_ : bs.Nodup),
 Calls Tryd.prog 17 #[.agg (ndC x)] w fun e w' => (∃ r, e = .returned r) ∧ Only (· ∈ bs) w w'
set_option maxRecDepth 100000 in
set_option maxHeartbeats 4000000 in
theorem overKid_any {N : Nat} (ih : OvC N) (y : KdV) (z : K) (hc : count z.2 ≤ N) (hm : msz z.2 ≤ 1048576) (bs : List Nat) (base : Nat) (w : World) (h : OwnT base w y.2 z.2 bs) (hn : bs.Nodup) :
  Calls Tryd.prog 72 #[.agg (kdC y)] w fun e w' => (∃ r, e = .returned r) ∧ Only (· ∈ bs) w w' := by
 have HH := Lib.hid h
 have HIH := Lib.hid ih
 clear h ih
 go_enter Tryd.func72, Tryd.ntmps72
 go_wp2_with (first | (refine wpList_box rfl 51 _ rfl (kdC y) rfl ?_; intro g1 w1 hb hx hg; have HB1 := Lib.hid hb; have HX1 := Lib.hid (Only.of_below (S := (· ∈ bs)) hx); have HH1 := Lib.hid (OwnT.below hx HH.out); clear hb hx hg) | (with_reducible refine wpList_loadL (kid_node HB1.out) rfl _ rfl rfl ?_))
 refine (HIH.out z.2 hc hm y.2 bs base w1 HH1.out hn).mono ?_
 rintro e w2 ⟨⟨r, rfl⟩, ho⟩
 have HO := Lib.hid (HX1.out.then2 ho)
 clear ho
 go_wp2_with fail
 refine bodyPost_end (results_none rfl _ _ _) rfl ?_
 exact ⟨⟨_, rfl⟩, HO.out⟩
def OkC (N : Nat) : Prop := ∀ (l : List K) (_ : ∀ x ∈ l, count x.2 ≤ N) (_ : mszL l ≤ 1048576) (ks : List KdV) (v : Value) (cs : List Nat) (base : Nat) (w : World) (_ : Agg.Own EK base w v ks) (_ : OwnL base w ks l cs) (_ : (ownB v ++ cs).Nodup),
 Calls Tryd.prog 47 #[v] w fun e w' => (∃ r, e = .returned r) ∧ Only (· ∈ ownB v ++ cs) w w'
set_option maxRecDepth 100000 in
set_option maxHeartbeats 4000000 in
theorem overNode_of {N : Nat} (hk : OkC N) : OvC (N + 1) := by
 intro t hc hm x bs base w h hn
 obtain ⟨k, b, l⟩ := t
 obtain ⟨_, hb, ks, cs, hr, hl, rfl⟩ := h
 have hbl : b.length ≤ 1048576 := Nat.le_trans (bytes_msz k b l) hm
 have hml : mszL l ≤ 1048576 := by simp only [msz] at hm; omega
 have HC := Lib.hid (fun x (hx : x ∈ l) => show count x.2 ≤ N by have h1 := countL_mem hx; simp only [count] at hc; omega)
 have HB := Lib.hid hb
 have HR := Lib.hid hr
 have HL := Lib.hid hl
 have HK := Lib.hid hk
 have HNB := Lib.hid (show (ownB x.2.2.1 ++ cs).Nodup from (List.nodup_append.1 hn).2.1)
 have HAP := Lib.hid (fun i hi j hj => (List.nodup_append.1 hn).2.2 i hi j hj)
 clear hb hr hl hk hc hm
 go_enter Tryd.func17, Tryd.ntmps17
 go_wp2_with (first | (refine wpList_box rfl 26 _ rfl (ndC x) rfl ?_; intro g1 w1 hb hx hg; have HB1 := Lib.hid hb; have HX1 := Lib.hid (Only.of_below (S := (· ∈ ownB x.2.1.1 ++ (ownB x.2.2.1 ++ cs))) hx); have HBb := Lib.hid (HB.out.below hx); have HRb := Lib.hid (HR.out.below hx); have HLb := Lib.hid (OwnL.below hx HL.out); have HG := Lib.hid (show w.heap.size ≤ g1 from hg); clear hb hx hg) | (with_reducible refine wpList_loadL (NdL.of_blk HB1.out).bytes rfl _ rfl rfl ?_))
 refine (overBytes_any x.2.1.1 b base hbl w1 HBb.out).mono ?_
 rintro e w2 ⟨⟨r, rfl⟩, ho⟩
 have HB2 := Lib.hid (Agg.Blk.keepO HB1.out ho (fun e => by have := (own_range HB.out g1 (mem_ownB.2 e)).2; have := HG.out; omega))
 have HR2 := Lib.hid (own_stays HRb.out ho (fun k hk e => HAP.out k (mem_ownB.2 e) k (List.mem_append.2 (.inl hk)) rfl))
 have HL2 := Lib.hid (OwnL.only ho l ks cs HLb.out (fun k hk e => HAP.out k (mem_ownB.2 e) k (List.mem_append.2 (.inr hk)) rfl))
 have HX2 := Lib.hid (HX1.out.then2 (ho.mono (fun i _ e => List.mem_append.2 (.inl (mem_ownB.2 e)))))
 clear ho
 go_wp2_with (first | (with_reducible refine wpList_loadL (NdL.of_blk HB2.out).kids rfl _ rfl rfl ?_))
 refine (HK.out l HC.out hml ks x.2.2.1 cs base w2 HR2.out HL2.out HNB.out).mono ?_
 rintro e w3 ⟨⟨r3, rfl⟩, ho⟩
 have HX3 := Lib.hid (HX2.out.then2 (ho.mono (fun i _ e => List.mem_append.2 (.inr e))))
 clear ho
 go_wp2_with fail
 refine bodyPost_end (results_none rfl _ _ _) rfl ?_
 exact ⟨⟨_, rfl⟩, HX3.out⟩
end Go.Proofs.YtfiadgdinhmgbaaDoor
/-! spencekit.OverKids. -/
namespace Go.Proofs.YtfiadgdinhmgbaaDoor
open Go.RowKit Pl Go.Agg Go.Tr
theorem OwnL.head {base : Nat} {w : World} {ks : List KdV} {l : List K} {c : List Nat} {q : Nat} {z : K} (h : OwnL base w (ks.drop q) (l.drop q) c) (hz : l[q]? = some z) :
  ∃ (y : KdV) (b2 c2 : List Nat), ks[q]? = some y ∧ y.1 = z.1 ∧ OwnT base w y.2 z.2 b2 ∧ OwnL base w (ks.drop (q + 1)) (l.drop (q + 1)) c2 ∧ c = b2 ++ c2 := by
 obtain ⟨hlt, he⟩ := List.getElem?_eq_some_iff.1 hz
 rw [List.drop_eq_getElem_cons hlt, he] at h
 by_cases hk : q < ks.length
 ·rw [List.drop_eq_getElem_cons hk] at h
  obtain ⟨n, t⟩ := z
  obtain ⟨h1, b2, c2, h2, h3, h4⟩ := h
  exact ⟨ks[q], b2, c2, List.getElem?_eq_getElem hk, h1, h2, h3, h4⟩
 ·rw [List.drop_eq_nil_of_le (by omega)] at h
  exact h.elim
theorem overK_at (g m cap k : Nat) (hk : k < m) (W : World) : (Instr.indexAt 24 (.slice (some ⟨g, 0, none⟩) m cap) (.int .i64 (k : Int))).run Tryd.prog W = .ok (.pointer (some ⟨g, k * 4, none⟩)) W := by
 have hel : Tryd.prog.elem 24 = 51 := by kernel_rfl
 have hsz : ∀ W, (Go.sizeOf 51).run Tryd.prog W = .ok 4 W := fun W => by kernel_rfl
 rw [run_indexAt_slice W 24 _ m cap .i64 (k : Int) (by rw [hel]; kernel_rfl), if_pos (by omega), hel, hsz]
 simp [Result.andThen, Addr.add]
 rcases k with _ | k <;> simp
theorem row_parts (cs : Array Value) (cap k : Nat) (hs : cs.size = cap * 4) (hk : k < cap) : ∃ xs ys zs : Array Value, cs = xs ++ (ys ++ zs) ∧ xs.size = k * 4 ∧ ys.size = 4 ∧ zs.size = cap * 4 - (k * 4 + 4) := by
 have hl : cs.toList.length = cap * 4 := by simpa using hs
 refine ⟨(cs.toList.take (k * 4)).toArray, ((cs.toList.drop (k * 4)).take 4).toArray, (cs.toList.drop (k * 4 + 4)).toArray, ?_, ?_, ?_, ?_⟩
 ·apply Array.toList_inj.1
  simp only [Array.toList_append]
  rw [show cs.toList.drop (k * 4 + 4) = (cs.toList.drop (k * 4)).drop 4 by rw [List.drop_drop], List.take_append_drop, List.take_append_drop]
 ·simp only [List.size_toArray, List.length_take, hl]; omega
 ·simp only [List.size_toArray, List.length_take, List.length_drop, hl]; omega
 ·simp only [List.size_toArray, List.length_drop, hl]
set_option maxRecDepth 100000 in
set_option maxHeartbeats 8000000 in
theorem overKids_of {N : Nat} (ih : OvC N) : OkC N := by
 intro l hc hm ks v cs base w hr hl hn
 have hkl := (OwnL.reads _ _ _ hl).len
 have hll : l.length ≤ 1048576 := Nat.le_trans (len_mszL l) hm
 have hlk := fun W => kds_len hr.slice W
 rw [hkl] at hlk
 have HR := Lib.hid hr
 have HIH := Lib.hid ih
 have HC := Lib.hid hc
 have HM := Lib.hid (fun x (hx : x ∈ l) => show msz x.2 ≤ 1048576 by have := mem_mszL hx; omega)
 have HNC := Lib.hid (List.nodup_append.1 hn).2.1
 have HAP := Lib.hid (fun i hi j hj => (List.nodup_append.1 hn).2.2 i hi j hj)
 have HL := Lib.hid hl
 clear ih hc hr hl hn hm
 go_enter Tryd.func47, Tryd.ntmps47
 go_wp2_with fail
 go_loopw [2] (fun i wr => ∃ (q : Nat) (c1 c2 : List Nat), q ≤ l.length ∧ i = .int .i64 (q : Int) ∧ cs = c1 ++ c2 ∧ OwnL base w (ks.drop q) (l.drop q) c2 ∧ Only (· ∈ c1) w wr) (fun i _ => l.length - (intOf i).toNat)
 case atStart => exact ⟨0, [], cs, by omega, rfl, rfl, HL.out, Only.refl _ _⟩
 case round =>
  obtain ⟨w1, rfl⟩ : ∃ y : World, y = wr := ⟨_, rfl⟩
  obtain ⟨q, c1, c2, hq, rfl, hcs, hl2, ho⟩ := hrel
  have HO := Lib.hid ho
  have HL2 := Lib.hid hl2
  clear ho hl2
  have HR1 := Lib.hid (own_stays HR.out HO.out (fun k hk e => HAP.out k hk k (by rw [hcs]; exact List.mem_append.2 (.inl e)) rfl))
  by_cases hlt : q < l.length
  ·have hlq : decide ((q : Int) < (l.length : Int)) = true := by simp; omega
   obtain ⟨z, hzk⟩ : ∃ z, l[q]? = some z := ⟨_, List.getElem?_eq_getElem hlt⟩
   obtain ⟨y, b2, c3, hyk, hyz, ht, hl3, rfl⟩ := OwnL.head HL2.out hzk
   obtain ⟨p, hadr, hle⟩ := kid_at HR1.out.slice q y hyk
   have HE := Lib.hid hle.all
   have hin := List.mem_of_getElem? hzk
   have HCZ := Lib.hid (HC.out z hin)
   have HMZ := Lib.hid (HM.out z hin)
   have HNB := Lib.hid (show b2.Nodup by have h := HNC.out; rw [hcs] at h; exact (List.nodup_append.1 (List.nodup_append.1 h).2.1).1)
   have HT1 := Lib.hid (OwnT.only HO.out z.2 y.2 b2 ht (fun k hk e => by have h := HNC.out; rw [hcs] at h; exact (List.nodup_append.1 h).2.2 k e k (List.mem_append.2 (.inl hk)) rfl))
   have HL3 := Lib.hid hl3
   clear hle hyk hyz ht hl3 hzk hin
   go_wp2_with (first | (with_reducible refine wpList_loadL HE.out rfl _ rfl rfl ?_))
   refine (overKid_any HIH.out y z HCZ.out HMZ.out b2 base w1 HT1.out HNB.out).mono ?_
   rintro e w2 ⟨⟨r, rfl⟩, ho2⟩
   have HO2 := Lib.hid (show Only (· ∈ c1 ++ b2) w w2 from (HO.out.mono (fun i _ e => List.mem_append.2 (.inl e))).then2 (ho2.mono (fun i _ e => List.mem_append.2 (.inr e))))
   clear ho2 hadr
   go_wp2_with fail
   go_roundw
   case rel => exact ⟨q + 1, c1 ++ b2, c3, by omega, by go_num, by rw [hcs, List.append_assoc], HL3.out, HO2.out⟩
   case measure => simp [intOf] <;> omega
  ·obtain rfl : q = l.length := by omega
   have hlq : decide (((l.length : Nat) : Int) < ((l.length : Nat) : Int)) = false := by simp
   have HOA := Lib.hid (show Only (· ∈ ownB v ++ cs) w w1 from HO.out.mono (fun i _ e => List.mem_append.2 (.inr (by rw [hcs]; exact List.mem_append.2 (.inl e)))))
   obtain ⟨_, ⟨rfl, _⟩ | ⟨g, cap, cur, hv, hg, hc9, hnc, hcm, hsz, _⟩⟩ := HR1.out
   ·go_wp2_with fail
    go_loopw [4] (fun i wr => i = .int .i64 0 ∧ wr = w1) (fun _ _ => 0)
    case atStart => exact ⟨rfl, rfl⟩
    case round =>
     obtain ⟨rfl, rfl⟩ := hrel
     go_wp2_with fail
     refine bodyPost_end (results_none rfl _ _ _) rfl ?_
     exact ⟨⟨_, rfl⟩, HOA.out⟩
   ·rw [hkl] at hv
    subst hv
    have hb0 : Blk w1 g 51 cur := hc9
    have hs0 : cur.size = cap * 4 := hsz
    clear hc9 hsz
    by_cases hcl : cap ≤ l.length + 12
    ·have hci : (cap : Int) ≤ (l.length : Int) + 12 := by omega
     go_wp2_with fail
     go_loopw [4] (fun i wr => ∃ (k : Nat) (cs0 : Array Value), k ≤ cap ∧ i = .int .i64 (k : Int) ∧ Blk wr g 51 cs0 ∧ cs0.size = cap * 4 ∧ Only (· ∈ ownB (.slice (some ⟨g, 0, none⟩) l.length cap) ++ cs) w wr) (fun i _ => cap - (intOf i).toNat)
     case atStart => exact ⟨0, cur, by omega, rfl, hb0, hs0, HOA.out⟩
     case round =>
      obtain ⟨wr1, rfl⟩ : ∃ y : World, y = wr := ⟨_, rfl⟩
      obtain ⟨k, cs0, hk, rfl, hb, hs, ho⟩ := hrel
      have HB := Lib.hid hb
      have HS := Lib.hid hs
      have HO := Lib.hid ho
      clear hb hs ho
      by_cases hlt : k < cap
      ·have hd1 : decide ((k : Int) < ((cap : Nat) : Int)) = true := by simp; omega
       have hia := overK_at g (cap) cap k hlt
       go_wp2_with fail
       refine (markKid_any 2 k wr1).mono ?_
       rintro e w2 ⟨rfl, hx⟩
       obtain ⟨xs, ys, zs, hcs0, hxs, hys, hzs⟩ := row_parts cs0 cap k HS.out (by omega)
       have HB2 := Lib.hid (show Blk w2 g 51 (xs ++ (ys ++ zs)) by rw [← hcs0]; exact HB.out.below hx)
       have HO2 := Lib.hid (HO.out.thenB hx)
       have HZ := Lib.hid (show (xs ++ (kdC (mkT 2 k, ndZ) ++ zs)).size = cap * 4 by simp only [Array.size_append, hxs, hzs]; show k * 4 + (4 + _) = _; omega)
       clear hx hcs0 hzs
       go_wp2_with (first | (refine Agg.wpList_putRow rfl rfl 51 _ _ rfl g (k * 4) xs ys zs (kdC (mkT 2 k, ndZ)) rfl rfl HB2.out hys hxs.symm (kd_info _) (kdC_one _) ?_; intro w3 hb3 ho3; have HB3 := Lib.hid hb3; have HO3 := Lib.hid (HO2.out.then2 (ho3.mono (fun i _ e => List.mem_append.2 (.inl (by subst e; simp [ownB, Value.ownBlock]))))); clear hb3 ho3))
       go_roundw
       case rel => exact ⟨k + 1, _, by omega, by go_num, HB3.out, HZ.out, HO3.out⟩
       case measure => simp [intOf] <;> omega
      ·obtain rfl : cap = k := by omega
       have hd2 : decide (((cap : Nat) : Int) < ((cap : Nat) : Int)) = false := by simp
       go_wp2_with fail
       refine bodyPost_end (results_none rfl _ _ _) rfl ?_
       exact ⟨⟨_, rfl⟩, HO.out⟩
    ·have hci : ¬ (cap : Int) ≤ (l.length : Int) + 12 := by omega
     go_wp2_with fail
     go_loopw [4] (fun i wr => ∃ (k : Nat) (cs0 : Array Value), k ≤ (l.length + 12) ∧ i = .int .i64 (k : Int) ∧ Blk wr g 51 cs0 ∧ cs0.size = cap * 4 ∧ Only (· ∈ ownB (.slice (some ⟨g, 0, none⟩) l.length cap) ++ cs) w wr) (fun i _ => (l.length + 12) - (intOf i).toNat)
     case atStart => exact ⟨0, cur, by omega, rfl, hb0, hs0, HOA.out⟩
     case round =>
      obtain ⟨wr1, rfl⟩ : ∃ y : World, y = wr := ⟨_, rfl⟩
      obtain ⟨k, cs0, hk, rfl, hb, hs, ho⟩ := hrel
      have HB := Lib.hid hb
      have HS := Lib.hid hs
      have HO := Lib.hid ho
      clear hb hs ho
      by_cases hlt : k < (l.length + 12)
      ·have hd1 : decide ((k : Int) < (((l.length + 12) : Nat) : Int)) = true := by simp; omega
       have hia := overK_at g ((l.length + 12)) cap k hlt
       go_wp2_with fail
       refine (markKid_any 2 k wr1).mono ?_
       rintro e w2 ⟨rfl, hx⟩
       obtain ⟨xs, ys, zs, hcs0, hxs, hys, hzs⟩ := row_parts cs0 cap k HS.out (by omega)
       have HB2 := Lib.hid (show Blk w2 g 51 (xs ++ (ys ++ zs)) by rw [← hcs0]; exact HB.out.below hx)
       have HO2 := Lib.hid (HO.out.thenB hx)
       have HZ := Lib.hid (show (xs ++ (kdC (mkT 2 k, ndZ) ++ zs)).size = cap * 4 by simp only [Array.size_append, hxs, hzs]; show k * 4 + (4 + _) = _; omega)
       clear hx hcs0 hzs
       go_wp2_with (first | (refine Agg.wpList_putRow rfl rfl 51 _ _ rfl g (k * 4) xs ys zs (kdC (mkT 2 k, ndZ)) rfl rfl HB2.out hys hxs.symm (kd_info _) (kdC_one _) ?_; intro w3 hb3 ho3; have HB3 := Lib.hid hb3; have HO3 := Lib.hid (HO2.out.then2 (ho3.mono (fun i _ e => List.mem_append.2 (.inl (by subst e; simp [ownB, Value.ownBlock]))))); clear hb3 ho3))
       go_roundw
       case rel => exact ⟨k + 1, _, by omega, by go_num, HB3.out, HZ.out, HO3.out⟩
       case measure => simp [intOf] <;> omega
      ·obtain rfl : (l.length + 12) = k := by omega
       have hd2 : decide ((((l.length + 12) : Nat) : Int) < (((l.length + 12) : Nat) : Int)) = false := by simp
       go_wp2_with fail
       refine bodyPost_end (results_none rfl _ _ _) rfl ?_
       exact ⟨⟨_, rfl⟩, HO.out⟩
theorem overNode_all : ∀ N, OvC N
 | 0 => fun t hc => by have := count_pos t; omega
 | N + 1 => overNode_of (overKids_of (overNode_all N))
theorem overNode_any (t : T) (hm : msz t ≤ 1048576) (x : NdV) (base : Nat) (w : World) (hb : base ≤ w.heap.size) (h : OwnN base w x t) :
  Calls Tryd.prog 17 #[.agg (ndC x)] w fun e w' => (∃ r, e = .returned r) ∧ Below base w w' := by
 obtain ⟨bs, h1, h2⟩ := h
 exact (overNode_all (count t) t (Nat.le_refl _) hm x bs base w h1 h2).mono fun e w' ⟨hr, ho⟩ => ⟨hr, ho.below (B := base) hb (fun i hi => (OwnT.range t x bs h1 i hi).1)⟩
end Go.Proofs.YtfiadgdinhmgbaaDoor
