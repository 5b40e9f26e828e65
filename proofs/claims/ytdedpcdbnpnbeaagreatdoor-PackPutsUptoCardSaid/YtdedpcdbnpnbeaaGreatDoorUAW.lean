/- spencekit.KeptBytes. (Several texts in one.) -/
import Derived.Test.YtdedpcdbnpnbeaaGreatDoorUAV
import Derived.Test.YtdedpcdbnpnbeaaGreatDoorUAP
import Derived.Test.YtdedpcdbnpnbeaaGreatDoorUAT
/-! spencekit.LentKid, LentKids, LentNode. -/
namespace Go.Proofs.YtdedpcdbnpnbeaaGreatDoor
open Go.RowKit Pl Go.Agg Go.Tr
def LntC (N : Nat) : Prop := ∀ (t : T) (_ : count t ≤ N) (_ : msz t ≤ 1048576) (x : NdV) (w : World) (_ : NodeV w x t),
  Calls Tryz.prog 6 #[.agg (ndC x)] w fun e w' => ∃ (x' : NdV) (bs : List Nat), e = .returned (.agg (ndC x')) ∧ LenT w.heap.size w' x' t bs ∧ Below w.heap.size w w'
set_option maxRecDepth 100000 in
set_option maxHeartbeats 4000000 in
theorem lentKid_any {N : Nat} (ih : LntC N) (y : KdV) (z : K) (hc : count z.2 ≤ N) (hm : msz z.2 ≤ 1048576) (w : World) (hv : NodeV w y.2 z.2) :
    Calls Tryz.prog 33 #[.agg (kdC y)] w fun e w' => ∃ (x' : NdV) (bs : List Nat), e = .returned (.agg (kdC (y.1, x'))) ∧ LenT w.heap.size w' x' z.2 bs ∧ Below w.heap.size w w' := by
  have HV := Lib.hid hv
  have HIH := Lib.hid ih
  clear ih hv
  go_enter Tryz.func33, Tryz.ntmps33
  go_wp2_with (first | (refine Agg.wpList_box rfl 40 _ rfl (kdC y) rfl ?_; intro g1 w1 hb hx hg; have HB1 := Lib.hid hb; have HX1 := Lib.hid hx; have HG1 := Lib.hid (show w.heap.size ≤ g1 from hg); clear hb hx hg) | (refine Agg.wpList_zero rfl 40 rfl (kdC kdZ) kd_zero ?_; intro g2 w2 hb hx hg; have HR2 := Lib.hid hb; have HB2 := Lib.hid (HB1.out.below hx); have HX2 := Lib.hid (Agg.belowThen HX1.out (Nat.le_refl _) hx); have HG2 := Lib.hid (show w.heap.size ≤ g2 ∧ g1 < g2 from ⟨Nat.le_trans HX1.out.size hg, Nat.lt_of_lt_of_le HB1.out.lt hg⟩); clear hb hx hg) | (with_reducible refine Agg.wpList_loadL (kid_node HB2.out) rfl _ rfl rfl ?_))
  refine (HIH.out z.2 hc hm y.2 w2 (NodeV.below HX2.out _ _ HV.out)).mono ?_
  rintro e w3 ⟨x', bs, rfl, hl, hx⟩
  have HL3 := Lib.hid hl
  have HRG := Lib.hid (LenT.range _ _ _ hl)
  have HS2 := Lib.hid (show g1 < w2.heap.size ∧ g2 < w2.heap.size from ⟨HB2.out.lt, HR2.out.lt⟩)
  have HB3 := Lib.hid (show Blk w3 g1 40 (#[.string ⟨y.1.toArray⟩] ++ (ndC y.2 ++ #[])) from HB2.out.below hx)
  have HR3 := Lib.hid (HR2.out.below hx)
  have HX3 := Lib.hid (Agg.belowThen HX2.out (Nat.le_refl _) hx)
  clear hl hx
  go_wp2_with (first | (refine Agg.wpList_putRow rfl rfl 26 _ _ rfl g1 1 #[.string ⟨y.1.toArray⟩] (ndC y.2) #[] (ndC x') rfl rfl HB3.out rfl rfl (nd_info _) (ndC_one _) ?_; intro w4 hb ho; have HB4 := Lib.hid (show Blk w4 g1 40 (kdC (y.1, x')) from hb); have HR4 := Lib.hid (Agg.Blk.keepO HR3.out ho (fun e => by have := HG2.out.2; omega)); have HL4 := Lib.hid (LenT.only ho _ _ _ HL3.out (fun j hj e => by have h1 := (HRG.out j hj).1; have h2 := HS2.out.1; omega)); have HX4 := Lib.hid (HX3.out.trans (ho.below (B := w.heap.size) HX3.out.size (fun i hi => by subst hi; exact HG1.out))); clear hb ho) | (with_reducible refine Agg.wpList_loadL (KdL.of_blk HB4.out).all rfl _ rfl rfl ?_) | (refine Agg.wpList_put rfl rfl 40 _ _ rfl g2 (kdC (y.1, x')) (kdC kdZ) rfl rfl HR4.out (kd_info _) rfl (kdC_one _) ?_; intro w5 hb hx hs9 hk; have ho9 := Only.of_eq (S := (· = g2)) hx hs9 hk rfl; have HF := Lib.hid hb; have HL5 := Lib.hid (LenT.only ho9 _ _ _ HL4.out (fun j hj e => by have h1 := (HRG.out j hj).1; have h2 := HS2.out.2; omega)); have HXF := Lib.hid (HX4.out.trans (ho9.below (B := w.heap.size) HX4.out.size (fun i hi => by subst hi; exact HG2.out.1))); clear hb hx hs9 hk ho9))
  exact Agg.post_row rfl rfl HF.out kd_under rfl (kd_info _) rfl ⟨x', bs, rfl, LenT.lower HX2.out.size _ _ _ HL5.out, HXF.out⟩
theorem lento_sv {α : Type} {E : Elem Tryz.prog α} {M : List α} {base : Nat} {w : World} {u : Value} {l : List α} (h : LentO E M base w u l) : ∃ s : SV, u = s.1 := by
  obtain ⟨g, cap, rfl, _⟩ := h
  exact ⟨⟨_, some ⟨g, 0, none⟩, l.length, cap, rfl⟩, rfl⟩
def LksC (N : Nat) : Prop := ∀ (l : List K) (_ : ∀ x ∈ l, count x.2 ≤ N) (_ : mszL l ≤ 1048576) (ks : List KdV) (v : Value) (w : World) (_ : SliceOf EK w v ks) (_ : KidsV w ks l),
  Calls Tryz.prog 18 #[v] w fun e w' => ∃ (u : SV) (lv : List KdV) (cs : List Nat), e = .returned u.1 ∧ LentO EK (marksG mkK 1 12) w.heap.size w' u.1 lv ∧ LenL w.heap.size w' lv l cs ∧ Below w.heap.size w w'
set_option maxRecDepth 100000 in
set_option maxHeartbeats 8000000 in
theorem lentKids_of {N : Nat} (ih : LntC N) : LksC N := by
  intro l hcn hm ks v w hs hk
  have hkl := hk.len
  have hlv := fun W => kds_len hs W
  rw [hkl] at hlv
  have hll : l.length ≤ 1048576 := Nat.le_trans (len_mszL l) hm
  have HS := Lib.hid hs
  have HK := Lib.hid hk
  have HIH := Lib.hid ih
  have HC := Lib.hid hcn
  have HM := Lib.hid (fun x (hx : x ∈ l) => show msz x.2 ≤ 1048576 by have := mem_mszL hx; omega)
  clear hs hk ih hcn hm
  have hc : l.length + 12 ≤ 1099511627776 / 8 := by omega
  go_enter Tryz.func18, Tryz.ntmps18
  go_wp2_with (first | (refine Agg.wpList_make0 (base := w.heap.size) EK rfl .i64 .i64 _ (l.length + 12) rfl rfl hc (by decide) (Nat.le_refl _) ?_; intro v1 w1 ho1 hx1; have HO1 := Lib.hid ho1; have HX1 := Lib.hid hx1; clear ho1 hx1))
  go_loopw [3, 4] (fun out i wr => ∃ (k : Nat) (lv : List KdV) (cs : List Nat), k ≤ l.length ∧ i = .int .i64 (k : Int) ∧ Agg.Own EK w.heap.size wr out lv ∧ LenL w.heap.size wr lv (l.take k) cs ∧ (∀ j ∈ cs, j ∉ ownB out) ∧ Below w.heap.size w wr) (fun _ i _ => l.length - (intOf i).toNat)
  case atStart => exact ⟨0, [], [], by omega, rfl, HO1.out, rfl, by simp, HX1.out⟩
  case round =>
    clear HO1 HX1
    obtain ⟨wr1, rfl⟩ : ∃ y : World, y = wr := ⟨_, rfl⟩
    obtain ⟨k, lv, cs, hk, rfl, ho, hl, hd, hx⟩ := hrel
    have hlen : lv.length = k := by have := (LenL.reads _ _ _ hl).len; rw [this, List.length_take]; omega
    have HO := Lib.hid ho
    have HL := Lib.hid hl
    have HD := Lib.hid hd
    have HX := Lib.hid hx
    clear ho hl hd hx
    by_cases hlt : k < l.length
    · have hd1 : decide ((k : Int) < (l.length : Int)) = true := decide_eq_true (by omega)
      obtain ⟨z, hzk⟩ : ∃ z, l[k]? = some z := ⟨_, List.getElem?_eq_getElem hlt⟩
      obtain ⟨y, hyk, hyz, hyn⟩ := HK.out.at_ k z hzk
      obtain ⟨p, hadr, hle⟩ := kid_at (HS.out.below HX.out) k y hyk
      have HE := Lib.hid hle.all
      have hin := List.mem_of_getElem? hzk
      have HYN := Lib.hid (NodeV.below HX.out _ _ hyn)
      have HTK := Lib.hid (show l.take (k + 1) = l.take k ++ [(y.1, z.2)] by rw [List.take_add_one, hzk, hyz]; rfl)
      have HCZ := Lib.hid (HC.out z hin)
      have HMZ := Lib.hid (HM.out z hin)
      clear hle hyk hyz hyn hzk hin
      go_wp2_with (first | (with_reducible refine Agg.wpList_loadL HE.out rfl _ rfl rfl ?_))
      refine (lentKid_any HIH.out y z HCZ.out HMZ.out wr1 HYN.out).mono ?_
      rintro e w2 ⟨x', b2, rfl, hl2, hx2⟩
      have hsz := HX.out.size
      have HO2 := Lib.hid (HO.out.below hx2)
      have HL2 := Lib.hid (HL.out.below hx2)
      have HN2 := Lib.hid (LenT.lower hsz _ _ _ hl2)
      have HDN := Lib.hid (fun j (hj : j ∈ b2) (e : j ∈ ownB _) => show False by have h1 := (LenT.range _ _ _ hl2 j hj).1; have h2 := (own_range HO.out j e).2; omega)
      have HX2 := Lib.hid (Agg.belowThen HX.out (Nat.le_refl _) hx2)
      clear hl2 hx2 hadr
      go_wp2_with (first | (refine Agg.wpList_new rfl rfl rfl 40 5 21 rfl rfl rfl (by decide) (kdC kdZ) (kdC (y.1, x')) kd_zero rfl (kd_info _) (kdC_one _) rfl (by first | (simp; done) | simp [Act.put]) ?_; intro g3 w3 hb3 hx3 hg3; have HB3 := Lib.hid hb3; have HO3 := Lib.hid (HO2.out.below hx3); have HL3 := Lib.hid (HL2.out.below hx3); have HN3 := Lib.hid (HN2.out.below hx3); have HX3 := Lib.hid (Agg.belowThen HX2.out (Nat.le_refl _) hx3); clear hb3 hx3 hg3) | (with_reducible refine Agg.wpList_loadL (KdL.of_blk HB3.out).all rfl _ rfl rfl ?_) | (refine Agg.wpList_pushO (E := EK) (base := w.heap.size) rfl rfl 24 rfl _ rfl _ rfl (y.1, x') rfl (fun _ => rfl) (by first | (simp; done) | simp [Act.put]) HO3.out (by omega) (by decide) HX3.out.size ?_; intro u5 v5 w5 ho5 hp5 hg5; have HO5 := Lib.hid ho5; have HL5 := Lib.hid (LenL.pushed HL3.out HD.out hp5 hg5); have HN5 := Lib.hid (LenT.pushed HN3.out HDN.out hp5 hg5); have HX5 := Lib.hid (HX3.out.trans (hp5.below w.heap.size (Nat.le_refl _) HX3.out.size)); clear ho5 hp5 hg5))
      go_roundw
      case rel =>
        refine ⟨k + 1, lv ++ [(y.1, x')], cs ++ b2, by omega, by go_num, HO5.out, ?_, fun j hj => ?_, HX5.out⟩
        · rw [HTK.out]; exact LenL.snoc (y := (y.1, x')) HL5.out.1 HN5.out.1
        · rcases List.mem_append.1 hj with hj | hj
          · exact HL5.out.2 j hj
          · exact HN5.out.2 j hj
      case measure => simp [intOf] <;> omega
    · obtain rfl : k = l.length := by omega
      have hd1 : decide ((l.length : Int) < (l.length : Int)) = false := by simp
      have HLA := Lib.hid (show LenL w.heap.size wr1 lv l cs by have := HL.out; rwa [List.take_length] at this)
      go_wp2_with fail
      go_loopw [3, 6] (fun out i ws => ∃ k : Nat, k ≤ 12 ∧ i = .int .i64 (k : Int) ∧ Agg.Own EK w.heap.size ws out (lv ++ marksG mkK 1 k) ∧ LenL w.heap.size ws lv l cs ∧ (∀ j ∈ cs, j ∉ ownB out) ∧ Below w.heap.size w ws) (fun _ i _ => 12 - (intOf i).toNat)
      case atStart => exact ⟨0, by omega, rfl, by simpa [marksG] using HO.out, HLA.out, HD.out, HX.out⟩
      case round =>
        clear HO HL HD HX HLA
        obtain ⟨ws1, rfl⟩ : ∃ y : World, y = wr := ⟨_, rfl⟩
        obtain ⟨k, hk, rfl, ho, hl, hd, hx⟩ := hrel
        have HO := Lib.hid ho
        have HL := Lib.hid hl
        have HD := Lib.hid hd
        have HX := Lib.hid hx
        clear ho hl hd hx
        by_cases hlt : k < 12
        · have hd12 : decide ((k : Int) < 12) = true := decide_eq_true (by omega)
          have h63 : (lv ++ marksG mkK 1 k).length + 1 ≤ 1099511627776 / 8 := by rw [List.length_append, marksG_length]; omega
          go_wp2_with fail
          refine (markKid_any 1 k _).mono ?_
          rintro e w4 ⟨rfl, hw4⟩
          have HX4 := Lib.hid (Agg.belowThen HX.out (Nat.le_refl _) hw4)
          have HO4 := Lib.hid (HO.out.below hw4)
          have HL4 := Lib.hid (HL.out.below hw4)
          clear hw4
          go_wp2_with (first | (refine Agg.wpList_pushO (E := EK) (base := w.heap.size) rfl rfl 33 rfl _ rfl _ rfl (mkK 1 k) rfl (fun _ => rfl) (by first | (simp; done) | simp [Act.put]) HO4.out h63 (by decide) HX4.out.size ?_; intro u5 v5 w5 ho5 hp5 hg5; have HO5 := Lib.hid (show Agg.Own EK w.heap.size w5 v5 (lv ++ marksG mkK 1 (k + 1)) by rw [marksG_succ, ← List.append_assoc]; exact ho5); have HL5 := Lib.hid (LenL.pushed HL4.out HD.out hp5 hg5); have HX5 := Lib.hid (HX4.out.trans (hp5.below w.heap.size (Nat.le_refl _) HX4.out.size)); clear ho5 hp5 hg5))
          go_roundw
          case rel => exact ⟨k + 1, by omega, by go_num, HO5.out, HL5.out.1, HL5.out.2, HX5.out⟩
          case measure => simp [intOf] <;> omega
        · obtain rfl : k = 12 := by omega
          obtain ⟨g, cap, rfl, hcap, hlent⟩ := LentO.of_own HO.out (by rw [marksG_length]; omega)
          rw [marksG_length] at hcap
          rw [hlen] at hcap
          have hcap2 : l.length ≤ cap := by omega
          have HLT := Lib.hid (show LentO EK (marksG mkK 1 12) w.heap.size ws1 (.slice (some ⟨g, 0, none⟩) l.length cap) lv by rw [← hlen]; exact hlent)
          clear hlent
          simp only [hlen]
          go_wp2_with fail
          go_ret
          exact ⟨⟨_, some ⟨g, 0, none⟩, l.length, cap, rfl⟩, lv, cs, rfl, HLT.out, HL.out, HX.out⟩
set_option maxRecDepth 100000 in
set_option maxHeartbeats 4000000 in
theorem lentNode_of {N : Nat} (hks : LksC N) : LntC (N + 1) := by
  intro t hc hm x w hv
  obtain ⟨k, b, l⟩ := t
  obtain ⟨xk, xb, xs⟩ := x
  obtain ⟨hk, hby, ks, hsl, hkv⟩ := hv
  obtain rfl : xk = k := hk
  have hbl : b.length ≤ 1048576 := Nat.le_trans (bytes_msz xk b l) hm
  have hml : mszL l ≤ 1048576 := by simp only [msz] at hm; omega
  have HC := Lib.hid (fun x (hx : x ∈ l) => show count x.2 ≤ N by have h1 := countL_mem hx; simp only [count] at hc; omega)
  have HBY := Lib.hid (show BytesAt w xb.1 b from hby)
  have HSL := Lib.hid (show SliceOf EK w xs.1 ks from hsl)
  have HKV := Lib.hid hkv
  have HKS := Lib.hid hks
  clear hby hsl hkv hks hc hm
  go_enter Tryz.func6, Tryz.ntmps6
  go_wp2_with (first | (refine Agg.wpList_box rfl 26 _ rfl (ndC (xk, xb, xs)) rfl ?_; intro g1 w1 hb hx hg; have HB1 := Lib.hid hb; have HX1 := Lib.hid hx; have HG1 := Lib.hid (show w.heap.size ≤ g1 from hg); clear hb hx hg) | (refine Agg.wpList_zero rfl 26 rfl (ndC ndZ) nd_zero ?_; intro g2 w2 hb hx hg; have HR2 := Lib.hid hb; have HB2 := Lib.hid (HB1.out.below hx); have HX2 := Lib.hid (Agg.belowThen HX1.out (Nat.le_refl _) hx); have HG2 := Lib.hid (show w.heap.size ≤ g2 ∧ g1 < g2 from ⟨Nat.le_trans HX1.out.size hg, Nat.lt_of_lt_of_le HB1.out.lt hg⟩); clear hb hx hg) | (with_reducible refine Agg.wpList_loadL (NdL.of_blk HB2.out).bytes rfl _ rfl rfl ?_))
  refine (lentBytes_own xb.1 b hbl w2 (SliceOf.below HBY.out HX2.out)).mono ?_
  rintro e w3 ⟨ub, rfl, hx, hl⟩
  obtain ⟨ub, rfl⟩ := lento_sv hl
  have HU3 := Lib.hid hl
  have HS2 := Lib.hid (show g1 < w2.heap.size ∧ g2 < w2.heap.size from ⟨HB2.out.lt, HR2.out.lt⟩)
  have HB3 := Lib.hid (HB2.out.below hx)
  have HR3 := Lib.hid (HR2.out.below hx)
  have HX3 := Lib.hid (Agg.belowThen HX2.out (Nat.le_refl _) hx)
  clear hl hx
  go_wp2_with (first | (refine Agg.wpList_put1 rfl rfl 23 _ _ rfl g1 1 ub.1 rfl rfl HB3.out (show 1 < 3 by decide) (sv_cells _) (sv_oneT _) (by kernel_rfl) (ndC (xk, ub, xs)) rfl ?_; intro w4 hb ho hs; have HB4 := Lib.hid hb; have HR4 := Lib.hid (Agg.Blk.keepO HR3.out ho (fun e => by have := HG2.out.2; omega)); have HU4 := Lib.hid (lento_stays HU3.out ho (fun j hj e => by have h1 := (lento_range HU3.out j hj).1; have h2 := HS2.out.1; omega)); have HX4 := Lib.hid (HX3.out.trans (ho.below (B := w.heap.size) HX3.out.size (fun i hi => by subst hi; exact HG1.out))); clear hb ho hs) | (with_reducible refine Agg.wpList_loadL (NdL.of_blk HB4.out).kids rfl _ rfl rfl ?_))
  refine (HKS.out l HC.out hml ks xs.1 w4 (SliceOf.below HSL.out HX4.out) (KidsV.below HX4.out _ _ HKV.out)).mono ?_
  rintro e w5 ⟨uk, lv, cs, rfl, hl, hll, hx⟩
  have HL5 := Lib.hid hl
  have HK5 := Lib.hid hll
  have HS4' := Lib.hid (show g1 < w4.heap.size ∧ g2 < w4.heap.size from ⟨HB4.out.lt, HR4.out.lt⟩)
  have HRG := Lib.hid (LenL.range _ _ _ hll)
  have HU5 := Lib.hid (HU4.out.below hx)
  have HB5 := Lib.hid (HB4.out.below hx)
  have HR5 := Lib.hid (HR4.out.below hx)
  have HX5 := Lib.hid (Agg.belowThen HX4.out (Nat.le_refl _) hx)
  clear hl hll hx
  go_wp2_with (first | (refine Agg.wpList_put1 rfl rfl 24 _ _ rfl g1 2 uk.1 rfl rfl HB5.out (show 2 < 3 by decide) (sv_cells _) (sv_oneT _) (by kernel_rfl) (ndC (xk, ub, uk)) rfl ?_; intro w6 hb ho hs; have HB6 := Lib.hid hb; have HR6 := Lib.hid (Agg.Blk.keepO HR5.out ho (fun e => by have := HG2.out.2; omega)); have HU6 := Lib.hid (lento_stays HU5.out ho (fun j hj e => by have h1 := (lento_range HU3.out j hj).1; have h2 := HS2.out.1; omega)); have HL6 := Lib.hid (lento_stays HL5.out ho (fun j hj e => by have h1 := (lento_range HL5.out j hj).1; have h2 := HS4'.out.1; omega)); have HK6 := Lib.hid (LenL.only ho _ _ _ HK5.out (fun j hj e => by have h1 := (HRG.out j hj).1; have h2 := HS4'.out.1; omega)); have HX6 := Lib.hid (HX5.out.trans (ho.below (B := w.heap.size) HX5.out.size (fun i hi => by subst hi; exact HG1.out))); clear hb ho hs) | (with_reducible refine Agg.wpList_loadL (NdL.of_blk HB6.out).all rfl _ rfl rfl ?_) | (refine Agg.wpList_put rfl rfl 26 _ _ rfl g2 (ndC (xk, ub, uk)) (ndC ndZ) rfl rfl HR6.out (nd_info _) rfl (ndC_one _) ?_; intro w7 hb hx hs9 hk; have ho9 := Only.of_eq (S := (· = g2)) hx hs9 hk rfl; have HF := Lib.hid hb; have HU7 := Lib.hid (lento_stays HU6.out ho9 (fun j hj e => by have h1 := (lento_range HU3.out j hj).1; have h2 := HS2.out.2; omega)); have HL7 := Lib.hid (lento_stays HL6.out ho9 (fun j hj e => by have h1 := (lento_range HL5.out j hj).1; have h2 := HS4'.out.2; omega)); have HK7 := Lib.hid (LenL.only ho9 _ _ _ HK6.out (fun j hj e => by have h1 := (HRG.out j hj).1; have h2 := HS4'.out.2; omega)); have HXF := Lib.hid (HX6.out.trans (ho9.below (B := w.heap.size) HX6.out.size (fun i hi => by subst hi; exact HG2.out.1))); clear hb hx hs9 hk ho9))
  exact Agg.post_row rfl rfl HF.out nd_under rfl (nd_info _) rfl ⟨(xk, ub, uk), _, rfl, ⟨rfl, HU7.out.lower HX2.out.size, lv, cs, HL7.out.lower HX4.out.size, LenL.lower HX4.out.size _ _ _ HK7.out, rfl⟩, HXF.out⟩
theorem lentNode_all : ∀ N, LntC N
  | 0 => fun t hc => by have := count_pos t; omega
  | N + 1 => lentNode_of (lentKids_of (lentNode_all N))
/-- a node, lent -/
theorem lentNode_any (t : T) (hm : msz t ≤ 1048576) (v : Value) (w : World) (hv : NodeAt w v t) :
    Calls Tryz.prog 6 #[v] w fun e w' => ∃ (x : NdV) (bs : List Nat), e = .returned (.agg (ndC x)) ∧ LenT w.heap.size w' x t bs ∧ Below w.heap.size w w' := by
  obtain ⟨x, rfl, hx⟩ := hv
  exact lentNode_all (count t) t (Nat.le_refl _) hm x w hx
end Go.Proofs.YtdedpcdbnpnbeaaGreatDoor
/-! spencekit.flatBytes. -/
namespace Go.Proofs.YtdedpcdbnpnbeaaGreatDoor
open Go.RowKit Pl Go.Agg
theorem markByte_blw (k i : Nat) (hk : k ≤ 16777216) (hi : i ≤ 16777216) (w : World) : Calls Tryz.prog 32 #[.int .i64 (k : Int), .int .i64 (i : Int)] w fun e w' => e = .returned (.int .u8 ((mkB k i).toNat : Int)) ∧ Below w.heap.size w w' :=
  (markByte_any k i hk hi w).mono (by rintro e w' ⟨rfl, rfl⟩; exact ⟨rfl, Below.refl _ _⟩)
theorem markByte_sum (k a b : Nat) (hk : k ≤ 16777216) (hi : a + b ≤ 16777216) (w : World) : Calls Tryz.prog 32 #[.int .i64 (k : Int), .int .i64 ((a : Int) + (b : Int))] w fun e w' => e = .returned (.int .u8 ((mkB k (a + b)).toNat : Int)) ∧ w' = w := by
  rw [show ((a : Int) + (b : Int)) = ((a + b : Nat) : Int) by simp]
  exact markByte_any k (a + b) hk hi w
theorem markByte_sumL (a b i : Nat) (hk : a + b ≤ 16777216) (hi : i ≤ 16777216) (w : World) : Calls Tryz.prog 32 #[.int .i64 ((a : Int) + (b : Int)), .int .i64 (i : Int)] w fun e w' => e = .returned (.int .u8 ((mkB (a + b) i).toNat : Int)) ∧ w' = w := by
  rw [show ((a : Int) + (b : Int)) = ((a + b : Nat) : Int) by simp]
  exact markByte_any (a + b) i hk hi w
def nilSV : SV := ⟨.slice none 0 0, _, _, _, rfl⟩
theorem same_ptr {S : Sem Value} {W : World} {p q : Addr} (h1 : S.run Tryz.prog W = .ok (.pointer (some p)) W) (h2 : S.run Tryz.prog W = .ok (.pointer (some q)) W) : q = p := by
  have e := h1.symm.trans h2
  injection e with e
  injection e with e
  injection e with e
  exact e.symm
theorem marks_set (k i : Nat) (l : List UInt8) (hi : i < l.length) : (marks k i ++ l.drop i).set i (mkB k i) = marks k (i + 1) ++ l.drop (i + 1) := by
  rw [List.set_append_right _ _ (by rw [marks_length]; exact Nat.le_refl _), marks_length, Nat.sub_self, List.drop_eq_getElem_cons hi, List.set_cons_zero, marks_succ, List.append_assoc, List.singleton_append]
theorem marks_mid (k i : Nat) (l : List UInt8) (hi : i ≤ l.length) : (marks k i ++ l.drop i).length = l.length := by simp [marks_length]; omega
/-- writing: row k at i -/
def wrote (f : Nat → List UInt8) (k i : Nat) : Nat → List UInt8 := fun j => if j = k then marks k i ++ (f k).drop i else if j < k then marks j (f j).length else f j
def wroteTo (f : Nat → List UInt8) (k : Nat) : Nat → List UInt8 := fun j => if j < k then marks j (f j).length else f j
theorem wrote_zero (f : Nat → List UInt8) (k : Nat) : wrote f k 0 = wroteTo f k := by
  funext j
  unfold wrote wroteTo
  by_cases hj : j = k
  · subst hj; simp [marks]
  · simp [hj]
theorem wroteTo_zero (f : Nat → List UInt8) : wroteTo f 0 = f := by funext j; simp [wroteTo]
theorem wroteTo_at (f : Nat → List UInt8) (n k : Nat) (h : k < n) : wroteTo f n k = marks k (f k).length := by simp [wroteTo, h]
theorem wroteTo_same (f : Nat → List UInt8) (n k : Nat) (h : k < n) : (fun j => if j = k then marks k (f k).length else wroteTo f n j) = wroteTo f n := by
  funext j
  by_cases hj : j = k
  · subst hj; simp [wroteTo, h]
  · simp [hj]
theorem marks_more (k n i : Nat) : marks k (n + i) ++ [mkB k (n + i)] = marks k (n + (i + 1)) := by rw [← Nat.add_assoc, marks_succ]
theorem wrote_all (f : Nat → List UInt8) (k : Nat) : wrote f k (f k).length = wroteTo f (k + 1) := by
  funext j
  unfold wrote wroteTo
  by_cases hj : j = k
  · subst hj; simp
  · by_cases h : j < k
    · simp [hj, h, show j < k + 1 by omega]
    · simp [hj, h, show ¬ j < k + 1 by omega]
theorem wrote_succ (f : Nat → List UInt8) (k i : Nat) (hi : i < (f k).length) : (fun j => if j = k then (wrote f k i k).set i (mkB k i) else wrote f k i j) = wrote f k (i + 1) := by
  funext j
  unfold wrote
  by_cases hj : j = k
  · subst hj; simp [marks_set _ _ _ hi]
  · simp [hj]
theorem wrote_len (f : Nat → List UInt8) (k i : Nat) (hi : i ≤ (f k).length) : (wrote f k i k).length = (f k).length := by unfold wrote; simp [marks_length]; omega
set_option maxRecDepth 100000 in
set_option maxHeartbeats 2000000 in
theorem flatBytes_any (v0 : Value) (vs : List SV) (f : Nat → List UInt8) (w : World) (he : BBAt w v0 vs) (hr : RoomsOf EB w vs f) (hd : Dist vs) (hsep : ∀ b, v0.ownBlock = some b → ¬ SS vs b) (hn : vs.length ≤ 4194304) (hf : ∀ j, (f j).length ≤ 8388608) :
    Calls Tryz.prog 46 #[v0] w fun e w' => e = .returned (.bool true) ∧ Only (SS vs) w w' ∧ ∃ f', RoomsOf EB w' vs f' ∧ ∀ j, (f' j).length = (f j).length := by
  have hlv := fun W => bb_len he W
  have HE := Lib.hid he
  have HR := Lib.hid hr
  have HD := Lib.hid hd
  have HSEP := Lib.hid hsep
  clear he hr hd hsep
  go_enter Tryz.func46, Tryz.ntmps46
  go_wp2_with fail
  go_loopw [3] (fun i wr => ∃ k : Nat, k ≤ vs.length ∧ i = .int .i64 k ∧ Only (SS vs) w wr ∧ RoomsOf EB wr vs (wroteTo f k)) (fun i _ => vs.length - (intOf i).toNat)
  case atStart => exact ⟨0, by omega, rfl, Only.refl _ _, by rw [wroteTo_zero]; exact HR.out⟩
  case round =>
    obtain ⟨w2, rfl⟩ : ∃ w2 : World, w2 = wr := ⟨_, rfl⟩
    obtain ⟨k, hk, rfl, hw, hrows⟩ := hrel
    have HW := Lib.hid hw
    have HRW := Lib.hid hrows
    clear hw hrows
    by_cases hlt : k < vs.length
    · obtain ⟨v, hvk⟩ : ∃ v, vs[k]? = some v := ⟨_, List.getElem?_eq_getElem hlt⟩
      have HV := Lib.hid hvk
      have hfk := hf k
      clear hvk
      go_wp2_with fail
      go_loopw [4] (fun j wr => ∃ i : Nat, i ≤ (f k).length ∧ j = .int .i64 i ∧ Only (SS vs) w wr ∧ RoomsOf EB wr vs (wrote f k i)) (fun j _ => (f k).length - (intOf j).toNat)
      case atStart => exact ⟨0, by omega, rfl, HW.out, by rw [wrote_zero]; exact HRW.out⟩
      case round =>
        obtain ⟨w3, rfl⟩ : ∃ w3 : World, w3 = wr := ⟨_, rfl⟩
        obtain ⟨i, hi, rfl, hw, hrows⟩ := hrel
        have HW3 := Lib.hid hw
        have HR3 := Lib.hid hrows
        clear hw hrows
        obtain ⟨q, hadr, hld⟩ := bb_at (SliceOf.onlyS HE.out HW3.out HSEP.out) k v HV.out
        have HL := Lib.hid hld
        have hlr := fun W => RoomN.blen (HR3.out k v HV.out) W
        rw [wrote_len f k i hi] at hlr
        clear hld
        by_cases hlt2 : i < (f k).length
        · obtain ⟨p, hadp, hst⟩ := RoomsOf.place HR3.out HD.out HV.out i (by rw [wrote_len f k i hi]; exact hlt2)
          have hadp2 : ∀ W, (Instr.indexAt 23 v.1 (.int .i64 (i : Int))).run Tryz.prog W = .ok (.pointer (some p)) W := hadp
          have HST := Lib.hid hst
          clear hst hadp
          go_wp2_with (first | (with_reducible refine Agg.wpList_loadL HL.out rfl _ rfl rfl ?_))
          refine Agg.wp_region_row 9 (fun w' => ∃ x : Later _, w' = x.w) (by kernel_rfl) (by kernel_rfl) ⟨⟨_, (Below.refl _ _).drew⟩, rfl⟩ ?_
          simp only [List.take_succ_cons, List.take_zero, List.drop_succ_cons, List.drop_zero]
          repeat (first | go_big_quiet_skip | ((first | (with_reducible refine Agg.wpQuiet_loadL HL.out rfl _ rfl rfl ?_)); simp only [Act.put, List.setIfInBounds_toArray, List.set_cons_succ, List.set_cons_zero]) | go_big_quiet_step ((go_at_call 32; exact Agg.Calls.later (markByte_blw k i (by omega) (by omega) _))))
          refine wpQuiet_nil ?_
          intro _ hw'
          obtain ⟨x1, rfl⟩ := hw'
          obtain ⟨w4, hsto, hrw, how⟩ := HST.out x1.w _ (mkB k i) (HR3.out.below x1.h) (by rw [wrote_len f k i hi]; exact hlt2)
          rw [wrote_succ f k i hlt2] at hrw
          have hw4 := (HW3.out.trans (Only.of_below (S := fun _ => False) x1.h) (fun _ _ h => h.elim)).trans how (fun _ _ h => h)
          have hrun : (Instr.storeAt 5 (.pointer (some p)) (.int .u8 ((mkB k i).toNat : Int))).run Tryz.prog x1.w = .ok () w4 := hsto
          with_reducible refine Agg.wpList_store rfl rfl 5 _ _ rfl (.pointer (some p)) (.int .u8 ((mkB k i).toNat : Int)) rfl rfl hrun ?_
          go_wp2_with fail
          go_roundw
          case rel => exact ⟨i + 1, by omega, by go_num, hw4, hrw⟩
          case measure => simp [intOf]; omega
        · obtain rfl : i = (f k).length := by omega
          have hrw := HR3.out
          rw [wrote_all] at hrw
          go_wp2_with (first | (with_reducible refine Agg.wpList_loadL HL.out rfl _ rfl rfl ?_))
          go_roundw
          case rel => exact ⟨k + 1, by omega, by go_num, HW3.out, hrw⟩
          case measure => simp [intOf]; omega
    · obtain rfl : k = vs.length := by omega
      clear hlt
      have hnc : vs.length ≤ 1099511627776 / 8 := by omega
      go_wp2_with (first | (with_reducible refine Agg.wpList_makeN EBB nilSV rfl rfl _ _ .i64 .i64 vs.length rfl rfl rfl hnc (by decide) ?_; intro w3 hg0 hx3 hsz3))
      have hgs0 : w.heap.size ≤ w2.heap.size := HW.out.size
      have HG0 := Lib.hid hg0
      have HW3 := Lib.hid (HW.out.trans (Only.of_below (S := fun _ => False) hx3) (fun _ _ h => h.elim))
      have HR3 := Lib.hid (HRW.out.below hx3)
      have HLT := Lib.hid HR.out.lt
      clear hg0 hx3 hsz3
      generalize hbg : w2.heap.size = bg at *
      clear HW HRW
      go_loopw [6] (fun i wr => ∃ k : Nat, k ≤ vs.length ∧ i = .int .i64 k ∧ ∃ gs, Only (SS vs) w wr ∧ RoomsOf EB wr vs (wroteTo f vs.length) ∧ RoomN EBB wr (.slice (some ⟨bg, 0, none⟩) vs.length vs.length) gs ∧ Got EB wr (bg + 1) vs gs k (fun j => marks j ((f j).length + 64))) (fun i _ => vs.length - (intOf i).toNat)
      case atStart => exact ⟨0, by omega, rfl, _, HW3.out, HR3.out, HG0.out, Got.zero (by simp)⟩
      case round =>
        obtain ⟨w4, rfl⟩ : ∃ w4 : World, w4 = wr := ⟨_, rfl⟩
        obtain ⟨k, hk, rfl, gs, hw, hrows, hgs, hgot⟩ := hrel
        have HW4 := Lib.hid hw
        have HR4 := Lib.hid hrows
        have HG4 := Lib.hid hgs
        have HT4 := Lib.hid hgot
        clear hw hrows hgs hgot
        by_cases hlt : k < vs.length
        · obtain ⟨v, hvk⟩ : ∃ v, vs[k]? = some v := ⟨_, List.getElem?_eq_getElem hlt⟩
          have HV := Lib.hid hvk
          have hfk := hf k
          obtain ⟨q, hadr, hld⟩ := bb_at (SliceOf.onlyS HE.out HW4.out HSEP.out) k v hvk
          have HL := Lib.hid hld
          have hrv := HR4.out k v hvk
          rw [wroteTo_at f _ k hlt] at hrv
          have HRV := Lib.hid hrv
          clear hvk hld hrv
          go_wp2_with (first | (with_reducible refine Agg.wpList_loadL HL.out rfl _ rfl rfl ?_))
          go_loopw [7, 8] (fun g j wr => ∃ i : Nat, i ≤ 64 ∧ j = .int .i64 i ∧ Growing EB w4 wr v.1 (marks k (f k).length) g (marks k ((f k).length + i))) (fun _ j _ => 64 - (intOf j).toNat)
          case atStart => exact ⟨0, by omega, rfl, Growing.start HRV.out⟩
          case round =>
            obtain ⟨w5, rfl⟩ : ∃ w5 : World, w5 = wr := ⟨_, rfl⟩
            obtain ⟨i, hi, rfl, hgr⟩ := hrel
            have HGR := Lib.hid hgr
            clear hgr
            have HW5 := Lib.hid (HW4.out.trans (HGR.out.only.ss HV.out) (fun _ _ h => h))
            by_cases hlt2 : i < 64
            · obtain ⟨q2, hadr2, hld2⟩ := bb_at (SliceOf.onlyS HE.out HW5.out HSEP.out) k v HV.out
              obtain rfl := same_ptr (hadr w5) (hadr2 w5)
              have HL2 := Lib.hid hld2
              have hlr := fun W => RoomN.blen HGR.out.old W
              rw [marks_length] at hlr
              clear hld2
              have hml := marks_length k ((f k).length + i)
              have hvlt : ∀ b, v.1.ownBlock = some b → b < w4.heap.size := fun b hb => Nat.lt_of_lt_of_le (HLT.out b ⟨k, v, HV.out, hb⟩) HW4.out.size
              go_wp2_with (first | (with_reducible refine Agg.wpList_loadL HL2.out rfl _ rfl rfl ?_))
              refine (markByte_sum k (f k).length i (by omega) (by omega) _).mono ?_
              rintro e w6 ⟨rfl, rfl⟩
              go_wp2_with (first | (refine Agg.wpList_grow (E := EB) rfl rfl 67 rfl _ rfl _ rfl (mkB k ((f k).length + i)) rfl (fun _ => rfl) (by simp) HGR.out (by omega) (by decide) hvlt ?_; intro u7 g7 w7 hg7))
              rw [marks_more] at hg7
              go_wp2_with fail
              go_roundw
              case rel => exact ⟨i + 1, by omega, by go_num, hg7⟩
              case measure => simp [intOf]; omega
            · obtain rfl : i = 64 := by omega
              obtain ⟨gp, gn, gc, hgf⟩ := HGR.out.room.form
              have hgown : ∀ b, v.1.ownBlock = some b → ¬ b = bg := fun b hb e => by
                have := HLT.out b ⟨k, v, HV.out, hb⟩
                omega
              have hg5 : RoomN EBB w5 (.slice (some ⟨bg, 0, none⟩) vs.length vs.length) gs := HG4.out.only HGR.out.only (fun b hb hb' => hgown b hb' (by simpa [Value.ownBlock] using hb.symm))
              obtain ⟨p, hadp, hst⟩ := hg5.place k (by rw [HT4.out.len]; exact hlt)
              obtain ⟨w6, hsto, hg6, ho6⟩ := hst w5 gs ⟨_, gp, gn, gc, hgf⟩ hg5 (by rw [HT4.out.len]; exact hlt)
              have hadp2 : ∀ W, (Instr.indexAt 36 (.slice (some ⟨bg, 0, none⟩) vs.length vs.length) (.int .i64 (k : Int))).run Tryz.prog W = .ok (.pointer (some p)) W := hadp
              have hss : ∀ b, SS vs b → ¬ (Value.slice (some ⟨bg, 0, none⟩) vs.length vs.length).ownBlock = some b := fun b hb e => by
                have := HLT.out b hb
                obtain rfl : bg = b := by simpa [Value.ownBlock] using e
                omega
              have hr6 := ((HR4.out.set HD.out HV.out HGR.out.old HGR.out.only)).only ho6 hss
              rw [wroteTo_same f _ k hlt] at hr6
              have hw6 : Only (SS vs) w w6 := HW5.out.trans ho6 (fun b hb e => by
                obtain rfl : bg = b := by simpa [Value.ownBlock] using e
                omega)
              have hB : ∀ b, v.1.ownBlock = some b → b < bg + 1 := fun b hb => by
                have := HLT.out b ⟨k, v, HV.out, hb⟩
                omega
              have hbg4 : bg < w4.heap.size := HG4.out.lt bg rfl
              have hslice : SliceOf EB w5 u7 (marks k ((f k).length + 64)) := HGR.out.room.slice
              have ht6 := ((HT4.out.stage HD.out HV.out hB HGR.out.only).next (g := ⟨_, gp, gn, gc, hgf⟩) HV.out hslice (fun b hb => (HGR.out.own b hb).imp id (fun h => by omega))).other (S := fun b => (Value.slice (some ⟨bg, 0, none⟩) vs.length vs.length).ownBlock = some b) (fun b hb => ⟨by
                obtain rfl : bg = b := by simpa [Value.ownBlock] using hb
                omega, fun h => hss b h hb⟩) ho6
              have HALL := Lib.hid (And.intro hw6 (And.intro hr6 (And.intro hg6 ht6)))
              clear hr6 hg6 ht6 hst hadp
              have hrun : (Instr.storeAt 23 (.pointer (some p)) u7).run Tryz.prog w5 = .ok () w6 := hsto
              clear hsto ho6 hss hB hslice hgown
              go_wp2_with (first | (refine Agg.wpList_store rfl rfl 23 _ _ rfl (.pointer (some p)) u7 rfl rfl hrun ?_))
              go_roundw
              case rel => exact ⟨k + 1, by omega, by go_num, _, HALL.out.1, HALL.out.2.1, HALL.out.2.2.1, HALL.out.2.2.2⟩
              case measure => simp [intOf]; omega
        · obtain rfl : k = vs.length := by omega
          clear hlt
          have HGB : Hid (BBAt w4 (.slice (some ⟨bg, 0, none⟩) vs.length vs.length) gs) := Lib.hid HG4.out.slice
          have HVB : Hid (BBAt w4 v0 vs) := Lib.hid (SliceOf.onlyS HE.out HW4.out HSEP.out)
          have HRB : Hid (∀ k v, vs[k]? = some v → BytesAt w4 v.1 (marks k (f k).length)) := Lib.hid (fun k v hv => by
            have h := (HR4.out k v hv).slice
            rwa [wroteTo_at f _ k (List.getElem?_eq_some_iff.1 hv).1] at h)
          go_wp2_with fail
          go_loopw [9] (fun i wr => ∃ k : Nat, k ≤ vs.length ∧ i = .int .i64 k ∧ Below w4.heap.size w4 wr) (fun i _ => vs.length - (intOf i).toNat)
          case atStart => exact ⟨0, by omega, rfl, Below.refl _ _⟩
          case round =>
            obtain ⟨w5, rfl⟩ : ∃ w5 : World, w5 = wr := ⟨_, rfl⟩
            obtain ⟨k, hk, rfl, hw5⟩ := hrel
            have HX5 := Lib.hid hw5
            clear hw5
            by_cases hlt : k < vs.length
            · obtain ⟨v, hvk⟩ : ∃ v, vs[k]? = some v := ⟨_, List.getElem?_eq_getElem hlt⟩
              obtain ⟨g, hgk⟩ := Got.lenk HT4.out.len hlt
              have hfk := hf k
              have HV := Lib.hid hvk
              have HGK := Lib.hid hgk
              clear hvk hgk
              go_wp2_with fail
              go_loopw [10] (fun j wr => ∃ i : Nat, i ≤ (f k).length + 64 ∧ j = .int .i64 i ∧ Below w4.heap.size w4 wr) (fun j _ => (f k).length + 64 - (intOf j).toNat)
              case atStart => exact ⟨0, by omega, rfl, HX5.out⟩
              case round =>
                obtain ⟨w6, rfl⟩ : ∃ w6 : World, w6 = wr := ⟨_, rfl⟩
                obtain ⟨i, hi, rfl, hw6⟩ := hrel
                have HX6 := Lib.hid hw6
                clear hw6
                obtain ⟨qg, hadg, hldg⟩ := bb_at (SliceOf.below HGB.out HX6.out) k g HGK.out
                obtain ⟨qv, hadv, hldv⟩ := bb_at (SliceOf.below HVB.out HX6.out) k v HV.out
                have hgb : BytesAt w6 g.1 (marks k ((f k).length + 64)) := SliceOf.below (HT4.out.at_ k g v hlt HGK.out HV.out) HX6.out
                have hvb : BytesAt w6 v.1 (marks k (f k).length) := SliceOf.below (HRB.out k v HV.out) HX6.out
                have hlg := fun W => bytes_len hgb W
                have hlr := fun W => bytes_len hvb W
                rw [marks_length] at hlg hlr
                have HLG := Lib.hid hldg
                have HLV := Lib.hid hldv
                have HGBB := Lib.hid hgb
                have HVBB := Lib.hid hvb
                clear hldg hldv hgb hvb
                by_cases hlt2 : i < (f k).length + 64
                · obtain ⟨pg, hadgi, hlgi⟩ := byte_at HGBB.out i (mkB k i) (marks_get _ _ _ hlt2)
                  have HLGI := Lib.hid hlgi
                  clear hlgi
                  by_cases hlt3 : i < (f k).length
                  · obtain ⟨pv, hadvi, hlvi⟩ := byte_at HVBB.out i (mkB k i) (marks_get _ _ _ hlt3)
                    have HLVI := Lib.hid hlvi
                    clear hlvi
                    have hd1 : decide ((i : Int) < ((f k).length : Int)) = true := by simp; omega
                    go_wp2_with (first | (with_reducible refine Agg.wpList_loadL HLG.out rfl _ rfl rfl ?_))
                    try simp only [Act.put, List.setIfInBounds_toArray, List.set_cons_succ, List.set_cons_zero]
                    refine Agg.wp_region_later_lit (by kernel_rfl) (by kernel_rfl) ?_
                    repeat (first | go_big_quiet_skip | ((first | (with_reducible refine Agg.wpQuiet_loadL HLG.out rfl _ rfl rfl ?_) | (with_reducible refine Agg.wpQuiet_loadL HLGI.out rfl _ rfl rfl ?_) | (with_reducible refine Agg.wpQuiet_loadL HLV.out rfl _ rfl rfl ?_) | (with_reducible refine Agg.wpQuiet_loadL HLVI.out rfl _ rfl rfl ?_)); simp only [Act.put, List.setIfInBounds_toArray, List.set_cons_succ, List.set_cons_zero]) | go_big_quiet_step ((go_at_call 32; exact Agg.Calls.later (markByte_blw k i (by omega) (by omega) _))))
                    refine wpQuiet_nil ?_
                    intro _ hw'
                    obtain ⟨x1, rfl⟩ := hw'
                    go_wp2_with fail
                    go_roundw
                    case rel => exact ⟨i + 1, by omega, by go_num, Agg.belowThen HX6.out (Nat.le_refl _) x1.h⟩
                    case measure => simp [intOf]; omega
                  · have hd1 : decide ((i : Int) < ((f k).length : Int)) = false := by simp; omega
                    go_wp2_with (first | (with_reducible refine Agg.wpList_loadL HLG.out rfl _ rfl rfl ?_))
                    try simp only [Act.put, List.setIfInBounds_toArray, List.set_cons_succ, List.set_cons_zero]
                    refine Agg.wp_region_later_lit (by kernel_rfl) (by kernel_rfl) ?_
                    repeat (first | go_big_quiet_skip | ((first | (with_reducible refine Agg.wpQuiet_loadL HLG.out rfl _ rfl rfl ?_) | (with_reducible refine Agg.wpQuiet_loadL HLGI.out rfl _ rfl rfl ?_) | (with_reducible refine Agg.wpQuiet_loadL HLV.out rfl _ rfl rfl ?_)); simp only [Act.put, List.setIfInBounds_toArray, List.set_cons_succ, List.set_cons_zero]) | go_big_quiet_step ((go_at_call 32; exact Agg.Calls.later (markByte_blw k i (by omega) (by omega) _))))
                    refine wpQuiet_nil ?_
                    intro _ hw'
                    obtain ⟨x1, rfl⟩ := hw'
                    go_wp2_with fail
                    go_roundw
                    case rel => exact ⟨i + 1, by omega, by go_num, Agg.belowThen HX6.out (Nat.le_refl _) x1.h⟩
                    case measure => simp [intOf]; omega
                · obtain rfl : i = (f k).length + 64 := by omega
                  go_wp2_with (first | (with_reducible refine Agg.wpList_loadL HLG.out rfl _ rfl rfl ?_))
                  go_roundw
                  case rel => exact ⟨k + 1, by omega, by go_num, HX6.out⟩
                  case measure => simp [intOf]; omega
            · obtain rfl : k = vs.length := by omega
              clear hlt
              have HW5 := Lib.hid (HW4.out.trans (Only.of_below (S := fun _ => False) HX5.out) (fun _ _ h => h.elim))
              have HR5 := Lib.hid (HR4.out.below HX5.out)
              have HG5 := Lib.hid (HG4.out.below HX5.out)
              clear HGB HVB HRB
              go_wp2_with fail
              go_loopw [11] (fun i wr => ∃ k : Nat, k ≤ vs.length ∧ i = .int .i64 k ∧ ∃ gs : List SV, Only (SS vs) w wr ∧ RoomsOf EB wr vs (wroteTo f vs.length) ∧ RoomN EBB wr (.slice (some ⟨bg, 0, none⟩) vs.length vs.length) gs ∧ Got EB wr (bg + 1) vs gs k (fun j => marks j (f j).length ++ marks (j + vs.length) 64)) (fun i _ => vs.length - (intOf i).toNat)
              case atStart => exact ⟨0, by omega, rfl, _, HW5.out, HR5.out, HG5.out, Got.zero HT4.out.len⟩
              case round =>
                obtain ⟨w6, rfl⟩ : ∃ w6 : World, w6 = wr := ⟨_, rfl⟩
                obtain ⟨k, hk, rfl, gs6, hw, hrows, hgs, hgot⟩ := hrel
                have HW6 := Lib.hid hw
                have HR6 := Lib.hid hrows
                have HG6 := Lib.hid hgs
                have HT6 := Lib.hid hgot
                clear hw hrows hgs hgot
                by_cases hlt : k < vs.length
                · obtain ⟨v, hvk⟩ : ∃ v, vs[k]? = some v := ⟨_, List.getElem?_eq_getElem hlt⟩
                  have hfk := hf k
                  have HV := Lib.hid hvk
                  clear hvk
                  have h64 : (64 : Nat) ≤ 1099511627776 / 8 := by omega
                  go_wp2_with (first | (with_reducible refine Agg.wpList_makeN EB (0 : UInt8) rfl rfl _ _ .i64 .i64 64 rfl rfl rfl h64 (by decide) ?_; intro w7 hm0 hx7 hsz7))
                  have hbm : w6.heap.size = w6.heap.size := rfl
                  have HM7 := Lib.hid hm0
                  have HX7 := Lib.hid hx7
                  clear hm0 hx7 hsz7
                  obtain ⟨bm, hbmm⟩ : ∃ bm, bm = w6.heap.size := ⟨_, rfl⟩
                  rw [← hbmm] at HM7
                  rw [← hbmm]
                  have hmo : (Value.slice (some ⟨bm, 0, none⟩) 64 64).ownBlock = some bm := rfl
                  generalize Value.slice (some ⟨bm, 0, none⟩) 64 64 = mv at *
                  go_loopw [13] (fun j wr => ∃ i : Nat, i ≤ 64 ∧ j = .int .i64 i ∧ Only (fun b => b = bm) w7 wr ∧ RoomN EB wr mv (marks (k + vs.length) i ++ (List.replicate 64 (0 : UInt8)).drop i)) (fun j _ => 64 - (intOf j).toNat)
                  case atStart => exact ⟨0, by omega, rfl, Only.refl _ _, by simpa [marks] using HM7.out⟩
                  case round =>
                    obtain ⟨w8, rfl⟩ : ∃ w8 : World, w8 = wr := ⟨_, rfl⟩
                    obtain ⟨i, hi, rfl, how, hrm⟩ := hrel
                    have HW8 := Lib.hid how
                    have HM8 := Lib.hid hrm
                    clear how hrm
                    have hml : (marks (k + vs.length) i ++ (List.replicate 64 (0 : UInt8)).drop i).length = 64 := by simp [marks_length]; omega
                    by_cases hlt2 : i < 64
                    · obtain ⟨p, hadp, hst⟩ := HM8.out.place i (by rw [hml]; exact hlt2)
                      obtain ⟨w9, hsto, hm9, ho9⟩ := hst w8 _ (mkB (k + vs.length) i) HM8.out (by rw [hml]; exact hlt2)
                      rw [marks_set _ _ _ (by simpa using hlt2)] at hm9
                      have hadp2 : ∀ W, (Instr.indexAt 23 mv (.int .i64 (i : Int))).run Tryz.prog W = .ok (.pointer (some p)) W := hadp
                      have hrun : (Instr.storeAt 5 (.pointer (some p)) (.int .u8 ((mkB (k + vs.length) i).toNat : Int))).run Tryz.prog w8 = .ok () w9 := hsto
                      have HALL := Lib.hid (And.intro (HW8.out.trans (ho9.mono (T := fun b => b = bm) (fun b _ e => by rw [hmo] at e; exact (Option.some.inj e).symm)) (fun _ _ h => h)) hm9)
                      clear hst hadp hsto hm9 ho9
                      go_wp2_with fail
                      refine (markByte_sumL k vs.length i (by omega) (by omega) _).mono ?_
                      rintro e w10 ⟨rfl, rfl⟩
                      go_wp2_with (first | (refine Agg.wpList_store rfl rfl 5 _ _ rfl (.pointer (some p)) (.int .u8 ((mkB (k + vs.length) i).toNat : Int)) rfl rfl hrun ?_))
                      go_roundw
                      case rel => exact ⟨i + 1, by omega, by go_num, HALL.out.1, HALL.out.2⟩
                      case measure => simp [intOf]; omega
                    · obtain rfl : i = 64 := by omega
                      have h68 : Only (fun _ => False) w6 w8 := (Only.of_below (S := fun _ => False) HX7.out).trans HW8.out (fun b hb e => by omega)
                      have hr8 := HR6.out.only h68 (fun _ _ h => h)
                      have hgv8 := HG6.out.only h68 (fun _ _ h => h)
                      have hw8 : Only (SS vs) w w8 := HW6.out.trans h68 (fun _ _ h => h.elim)
                      have ht8 := HT6.out.other (S := fun _ => False) (fun _ h => h.elim) h68
                      have hrv := hr8 k v HV.out
                      rw [wroteTo_at f _ k hlt] at hrv
                      have hms : SliceOf EB w8 mv (marks (k + vs.length) 64) := by simpa using HM8.out.slice
                      have h63 : (marks k (f k).length).length + (marks (k + vs.length) 64).length ≤ 1099511627776 / 8 := by rw [marks_length, marks_length]; omega
                      have hvlt : ∀ b, v.1.ownBlock = some b → b < w8.heap.size := fun b hb => Nat.lt_of_lt_of_le (HLT.out b ⟨k, v, HV.out, hb⟩) hw8.size
                      obtain ⟨q, hadr, hld⟩ := bb_at (SliceOf.onlyS HE.out hw8 HSEP.out) k v HV.out
                      have HL := Lib.hid hld
                      have HR8 := Lib.hid hr8
                      have HGV8 := Lib.hid hgv8
                      have HT8 := Lib.hid ht8
                      have HRV := Lib.hid hrv
                      have HMS := Lib.hid hms
                      have HW8' := Lib.hid hw8
                      clear hld hr8 hgv8 ht8 hrv hms hw8 h68 hml HX7 HM7 hmo hbmm hbm HT6 HG6 HR6 HW8 HM8
                      go_wp2_with (first | (with_reducible refine Agg.wpList_loadL HL.out rfl _ rfl rfl ?_) | (at_builtin; refine Agg.walk_stop ?_))
                      refine ⟨?_, trivial⟩
                      refine Agg.wpList_growS (E := EB) rfl _ _ rfl rfl rfl (Growing.start HRV.out) HMS.out h63 (by decide) hvlt ?_
                      intro g9 w9 hg9
                      simp only [Act.put, List.setIfInBounds_toArray, List.set_cons_succ, List.set_cons_zero]
                      have HGR := Lib.hid hg9
                      clear hg9
                      have HW9 := Lib.hid (HW8'.out.trans (HGR.out.only.ss HV.out) (fun _ _ h => h))
                      obtain ⟨gp, gn, gc, hgf⟩ := HGR.out.room.form
                      have hgown : ∀ b, v.1.ownBlock = some b → ¬ b = bg := fun b hb e => by
                        have := HLT.out b ⟨k, v, HV.out, hb⟩
                        omega
                      have hgl : k < gs6.length := by rw [HT8.out.len]; exact hlt
                      have hg5 : RoomN EBB w9 (.slice (some ⟨bg, 0, none⟩) vs.length vs.length) gs6 := HGV8.out.only HGR.out.only (fun b hb hb' => hgown b hb' (by simpa [Value.ownBlock] using hb.symm))
                      obtain ⟨p, hadp, hst⟩ := hg5.place k hgl
                      obtain ⟨w10, hsto, hg6, ho6⟩ := hst w9 gs6 ⟨_, gp, gn, gc, hgf⟩ hg5 hgl
                      have hadp2 : ∀ W, (Instr.indexAt 36 (.slice (some ⟨bg, 0, none⟩) vs.length vs.length) (.int .i64 (k : Int))).run Tryz.prog W = .ok (.pointer (some p)) W := hadp
                      have hss : ∀ b, SS vs b → ¬ (Value.slice (some ⟨bg, 0, none⟩) vs.length vs.length).ownBlock = some b := fun b hb e => by
                        have := HLT.out b hb
                        obtain rfl : bg = b := by simpa [Value.ownBlock] using e
                        omega
                      have hr6 := ((HR8.out.set HD.out HV.out HGR.out.old HGR.out.only)).only ho6 hss
                      rw [wroteTo_same f _ k hlt] at hr6
                      have hw10 : Only (SS vs) w w10 := HW9.out.trans ho6 (fun b hb e => by
                        obtain rfl : bg = b := by simpa [Value.ownBlock] using e
                        omega)
                      have hB : ∀ b, v.1.ownBlock = some b → b < bg + 1 := fun b hb => by
                        have := HLT.out b ⟨k, v, HV.out, hb⟩
                        omega
                      have hbg8 : bg < w8.heap.size := HGV8.out.lt bg rfl
                      have hslice : SliceOf EB w9 g9 (marks k (f k).length ++ marks (k + vs.length) 64) := HGR.out.room.slice
                      have ht6 := ((HT8.out.stage HD.out HV.out hB HGR.out.only).next (g := ⟨_, gp, gn, gc, hgf⟩) HV.out hslice (fun b hb => (HGR.out.own b hb).imp id (fun h => by omega))).other (S := fun b => (Value.slice (some ⟨bg, 0, none⟩) vs.length vs.length).ownBlock = some b) (fun b hb => ⟨by
                        obtain rfl : bg = b := by simpa [Value.ownBlock] using hb
                        omega, fun h => hss b h hb⟩) ho6
                      have HALL := Lib.hid (And.intro hw10 (And.intro hr6 (And.intro hg6 ht6)))
                      clear hr6 hg6 ht6 hst hadp
                      have hrun : (Instr.storeAt 23 (.pointer (some p)) g9).run Tryz.prog w9 = .ok () w10 := hsto
                      clear hsto ho6 hss hB hslice hgown hg5
                      go_wp2_with (first | (refine Agg.wpList_store rfl rfl 23 _ _ rfl (.pointer (some p)) g9 rfl rfl hrun ?_))
                      go_roundw
                      case rel => exact ⟨k + 1, by omega, by go_num, _, HALL.out.1, HALL.out.2.1, HALL.out.2.2.1, HALL.out.2.2.2⟩
                      case measure => simp [intOf]; omega
                · obtain rfl : k = vs.length := by omega
                  clear hlt
                  have HGB : Hid (BBAt w6 (.slice (some ⟨bg, 0, none⟩) vs.length vs.length) gs6) := Lib.hid HG6.out.slice
                  have HVB : Hid (BBAt w6 v0 vs) := Lib.hid (SliceOf.onlyS HE.out HW6.out HSEP.out)
                  have HRB : Hid (∀ k v, vs[k]? = some v → BytesAt w6 v.1 (marks k (f k).length)) := Lib.hid (fun k v hv => by
                    have h := (HR6.out k v hv).slice
                    rwa [wroteTo_at f _ k (List.getElem?_eq_some_iff.1 hv).1] at h)
                  go_wp2_with fail
                  go_loopw [14] (fun i wr => ∃ k : Nat, k ≤ vs.length ∧ i = .int .i64 k ∧ Below w6.heap.size w6 wr) (fun i _ => vs.length - (intOf i).toNat)
                  case atStart => exact ⟨0, by omega, rfl, Below.refl _ _⟩
                  case round =>
                    obtain ⟨w7, rfl⟩ : ∃ w7 : World, w7 = wr := ⟨_, rfl⟩
                    obtain ⟨k, hk, rfl, hw7⟩ := hrel
                    have HX7 := Lib.hid hw7
                    clear hw7
                    by_cases hlt : k < vs.length
                    · obtain ⟨v, hvk⟩ : ∃ v, vs[k]? = some v := ⟨_, List.getElem?_eq_getElem hlt⟩
                      obtain ⟨g, hgk⟩ := Got.lenk HT6.out.len hlt
                      have hfk := hf k
                      have HV := Lib.hid hvk
                      have HGK := Lib.hid hgk
                      clear hvk hgk
                      go_wp2_with fail
                      go_loopw [15] (fun j wr => ∃ i : Nat, i ≤ (f k).length ∧ j = .int .i64 i ∧ Below w6.heap.size w6 wr) (fun j _ => (f k).length - (intOf j).toNat)
                      case atStart => exact ⟨0, by omega, rfl, HX7.out⟩
                      case round =>
                        obtain ⟨w8, rfl⟩ : ∃ w8 : World, w8 = wr := ⟨_, rfl⟩
                        obtain ⟨i, hi, rfl, hw8⟩ := hrel
                        have HX8 := Lib.hid hw8
                        clear hw8
                        obtain ⟨qg, hadg, hldg⟩ := bb_at (SliceOf.below HGB.out HX8.out) k g HGK.out
                        obtain ⟨qv, hadv, hldv⟩ := bb_at (SliceOf.below HVB.out HX8.out) k v HV.out
                        have hgb : BytesAt w8 g.1 (marks k (f k).length ++ marks (k + vs.length) 64) := SliceOf.below (HT6.out.at_ k g v hlt HGK.out HV.out) HX8.out
                        have hvb : BytesAt w8 v.1 (marks k (f k).length) := SliceOf.below (HRB.out k v HV.out) HX8.out
                        have hlr := fun W => bytes_len hvb W
                        rw [marks_length] at hlr
                        have HLG := Lib.hid hldg
                        have HLV := Lib.hid hldv
                        have HGBB := Lib.hid hgb
                        have HVBB := Lib.hid hvb
                        clear hldg hldv hgb hvb
                        by_cases hlt2 : i < (f k).length
                        · obtain ⟨pg, hadgi, hlgi⟩ := byte_at HGBB.out i (mkB k i) (by rw [List.getElem?_append_left (by rw [marks_length]; exact hlt2)]; exact marks_get _ _ _ hlt2)
                          have HLGI := Lib.hid hlgi
                          obtain ⟨pv, hadvi, hlvi⟩ := byte_at HVBB.out i (mkB k i) (marks_get _ _ _ hlt2)
                          have HLVI := Lib.hid hlvi
                          clear hlvi hlgi
                          go_wp2_with (first | (with_reducible refine Agg.wpList_loadL HLV.out rfl _ rfl rfl ?_))
                          try simp only [Act.put, List.setIfInBounds_toArray, List.set_cons_succ, List.set_cons_zero]
                          refine Agg.wp_region_later_lit (by kernel_rfl) (by kernel_rfl) ?_
                          repeat (first | go_big_quiet_skip | ((first | (with_reducible refine Agg.wpQuiet_loadL HLV.out rfl _ rfl rfl ?_) | (with_reducible refine Agg.wpQuiet_loadL HLVI.out rfl _ rfl rfl ?_) | (with_reducible refine Agg.wpQuiet_loadL HLG.out rfl _ rfl rfl ?_) | (with_reducible refine Agg.wpQuiet_loadL HLGI.out rfl _ rfl rfl ?_)); simp only [Act.put, List.setIfInBounds_toArray, List.set_cons_succ, List.set_cons_zero]) | go_big_quiet_step ((go_at_call 32; exact Agg.Calls.later (markByte_blw k i (by omega) (by omega) _))))
                          refine wpQuiet_nil ?_
                          intro _ hw'
                          obtain ⟨x1, rfl⟩ := hw'
                          go_wp2_with fail
                          go_roundw
                          case rel => exact ⟨i + 1, by omega, by go_num, Agg.belowThen HX8.out (Nat.le_refl _) x1.h⟩
                          case measure => simp [intOf]; omega
                        · obtain rfl : i = (f k).length := by omega
                          go_wp2_with (first | (with_reducible refine Agg.wpList_loadL HLV.out rfl _ rfl rfl ?_))
                          go_roundw
                          case rel => exact ⟨k + 1, by omega, by go_num, HX8.out⟩
                          case measure => simp [intOf]; omega
                    · obtain rfl : k = vs.length := by omega
                      clear hlt
                      have HFIN := Lib.hid (And.intro (HW6.out.trans (Only.of_below (S := fun _ => False) HX7.out) (fun _ _ h => h.elim)) (HR6.out.below HX7.out))
                      go_wp2_with fail
                      go_ret
                      exact ⟨rfl, HFIN.out.1, _, HFIN.out.2, fun j => by unfold wroteTo; split <;> simp [marks_length]⟩
end Go.Proofs.YtdedpcdbnpnbeaaGreatDoor
/-! spencekit.KeptBytes. -/
namespace Go.Proofs.YtdedpcdbnpnbeaaGreatDoor
open Go.RowKit Pl Go.Agg
theorem markByte_off (k n : Nat) (hk : n ≤ k) (hi : k ≤ 16777216) (w : World) : Calls Tryz.prog 32 #[.int .i64 1, .int .i64 ((k : Int) - (n : Int))] w fun e w' => e = .returned (.int .u8 ((mkB 1 (k - n)).toNat : Int)) ∧ Below w.heap.size w w' := by
  rw [show ((k : Int) - (n : Int)) = ((k - n : Nat) : Int) by omega]
  exact markByte_blw 1 (k - n) (by omega) (by omega) w
set_option maxRecDepth 100000 in
set_option maxHeartbeats 1000000 in
theorem keptBytes_any (u v : Value) (b : List UInt8) (hb : b.length ≤ 1048576) (base : Nat) (w : World) (hu : Lent EB (marks 1 12) base w u b) (hv : BytesAt w v b) :
    Calls Tryz.prog 25 #[u, v] w fun e w' => e = .returned (.bool true) ∧ Below w.heap.size w w' := by
  have hlv := fun W => bytes_len hv W
  have HV := Lib.hid hv
  obtain ⟨g, cap, rfl, _, hcap, ha⟩ := hu
  rw [marks_length] at hcap ha
  have HA := Lib.hid ha
  clear hv ha
  have hne : ((b.length : Int) != (b.length : Int)) = false := by simp
  go_enter Tryz.func25, Tryz.ntmps25
  go_wp2_with fail
  go_loopw [6] (fun i wr => ∃ k : Nat, k ≤ b.length + 12 ∧ i = .int .i64 k ∧ Below w.heap.size w wr) (fun i _ => b.length + 12 - (intOf i).toNat)
  case atStart => exact ⟨0, by omega, rfl, Below.refl _ _⟩
  case round =>
    obtain ⟨w1, rfl⟩ : ∃ w1 : World, w1 = wr := ⟨_, rfl⟩
    obtain ⟨k, hk, rfl, hw⟩ := hrel
    have HW := Lib.hid hw
    clear hw
    by_cases hlt : k < b.length + 12
    · by_cases hlt2 : k < b.length
      · obtain ⟨y, hyk⟩ : ∃ y, b[k]? = some y := ⟨_, List.getElem?_eq_getElem hlt2⟩
        obtain ⟨pa, hadp, hlda⟩ := byte_at (SliceOf.below HA.out HW.out) k y (by rw [List.getElem?_append_left hlt2]; exact hyk)
        obtain ⟨pv, hadv, hldv⟩ := byte_at (SliceOf.below HV.out HW.out) k y hyk
        have HLA := Lib.hid hlda
        have HLV := Lib.hid hldv
        have hd1 : decide ((k : Int) < (b.length : Int)) = true := by simp; omega
        have hd3 : decide (b.length ≤ k) = false := by simp; omega
        clear hyk hlda hldv
        go_wp2_with fail
        try simp only [Act.put, List.setIfInBounds_toArray, List.set_cons_succ, List.set_cons_zero]
        refine Agg.wp_region_later_lit (by kernel_rfl) (by kernel_rfl) ?_
        repeat (first | go_big_quiet_skip | ((first | (with_reducible refine Agg.wpQuiet_loadL HLA.out rfl _ rfl rfl ?_) | (with_reducible refine Agg.wpQuiet_loadL HLV.out rfl _ rfl rfl ?_)); simp only [Act.put, List.setIfInBounds_toArray, List.set_cons_succ, List.set_cons_zero]) | go_big_quiet_step (fail))
        refine wpQuiet_nil ?_
        intro _ hw'
        obtain ⟨x1, rfl⟩ := hw'
        go_wp2_with fail
        go_roundw
        case rel => exact ⟨k + 1, by omega, by go_num, Agg.belowThen HW.out (Nat.le_refl _) x1.h⟩
        case measure => simp [intOf]; omega
      · obtain ⟨pa, hadp, hlda⟩ := byte_at (SliceOf.below HA.out HW.out) k (mkB 1 (k - b.length)) (by rw [List.getElem?_append_right (by omega)]; exact marks_get _ _ _ (by omega))
        have HLA := Lib.hid hlda
        have hd1 : decide ((k : Int) < (b.length : Int)) = false := by simp; omega
        have hd3 : decide (b.length ≤ k) = true := by simp; omega
        clear hlda
        go_wp2_with fail
        try simp only [Act.put, List.setIfInBounds_toArray, List.set_cons_succ, List.set_cons_zero]
        refine Agg.wp_region_later_lit (by kernel_rfl) (by kernel_rfl) ?_
        repeat (first | go_big_quiet_skip | ((first | (with_reducible refine Agg.wpQuiet_loadL HLA.out rfl _ rfl rfl ?_)); simp only [Act.put, List.setIfInBounds_toArray, List.set_cons_succ, List.set_cons_zero]) | go_big_quiet_step ((go_at_call 32; exact Agg.Calls.later (markByte_off k b.length (by omega) (by omega) _))))
        refine wpQuiet_nil ?_
        intro _ hw'
        obtain ⟨x1, rfl⟩ := hw'
        go_wp2_with fail
        go_roundw
        case rel => exact ⟨k + 1, by omega, by go_num, Agg.belowThen HW.out (Nat.le_refl _) x1.h⟩
        case measure => simp [intOf]; omega
    · obtain rfl : k = b.length + 12 := by omega
      go_wp2_with fail
      go_ret
      exact ⟨rfl, HW.out⟩
end Go.Proofs.YtdedpcdbnpnbeaaGreatDoor
