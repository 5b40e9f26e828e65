/- spenceref28.Right. (Several texts in one.) -/
import Derived.Test.YtpnolgliklmnmaaGreatRightW
import Derived.Test.YtpnolgliklmnmaaGreatRightW2
import Derived.Test.YtpnolgliklmnmaaGreatRightW3
import Derived.Test.YtpnolgliklmnmaaGreatGAL
import Derived.Test.YtpnolgliklmnmaaGreatGAH
import Derived.Test.YtpnolgliklmnmaaGreatGAD
import Derived.Test.YtpnolgliklmnmaaGreatGAM
import Derived.Test.YtpnolgliklmnmaaGreatGAP
import Derived.Test.YtpnolgliklmnmaaGreatGAK
/-! wire.Right of any request. -/
namespace Go.Proofs.YtpnolgliklmnmaaGreat
open Go.RowKit Pl Go.Agg
theorem parts_cases (k : Int) : partsN k = 34 ∨ partsN k = 32 ∨ partsN k = 16 ∨ partsN k = 1 ∨ partsN k = 6 ∨ partsN k = 2 ∨ partsN k = 36 ∨ partsN k = 8 ∨ partsN k = 0 := by
  unfold partsN
  repeat' split
  all_goals simp
theorem right_any (k u wh : Int) (nm : List UInt8) (vb : Value) (bs ph pn ch : List UInt8) (hl : ph.length = 20) (hc : ch.length = 20) (w : World) (hb : BytesAt w vb bs) :
    Calls Tryz.prog 13 #[.agg (rqG k u wh nm vb ph pn ch)] w fun e w' => e = .returned (.bool (rightN k u wh nm bs.length ph pn ch)) ∧ Below w.heap.size w w' := by
  rcases parts_cases k with h | h | h | h | h | h | h | h | h
  · exact right_34 k u wh nm vb bs ph pn ch h hl hc w hb
  · exact right_32 k u wh nm vb bs ph pn ch h hl hc w hb
  · exact right_16 k u wh nm vb bs ph pn ch h hl hc w hb
  · exact right_1 k u wh nm vb bs ph pn ch h hl hc w hb
  · exact right_6 k u wh nm vb bs ph pn ch h hl hc w hb
  · exact right_2 k u wh nm vb bs ph pn ch h hl hc w hb
  · exact right_36 k u wh nm vb bs ph pn ch h hl hc w hb
  · exact right_8 k u wh nm vb bs ph pn ch h hl hc w hb
  · exact right_0 k u wh nm vb bs ph pn ch h hl hc w hb
end Go.Proofs.YtpnolgliklmnmaaGreat
/-! wire.Put of any request. -/
namespace Go.Proofs.YtpnolgliklmnmaaGreat
open Go.RowKit Pl Go.Agg
theorem newBytes_own {w w' : World} {v : Value} {s : List UInt8} (h : NewBytes w w' v s) : ∀ k, v.ownBlock = some k → w.heap.size ≤ k := by
  obtain ⟨cap, fr, rfl, _⟩ := h
  intro k hk
  simp only [Value.ownBlock, Option.some.injEq] at hk
  omega
theorem bytes_sv {w : World} {v : Value} {l : List UInt8} (h : BytesAt w v l) : ∃ s : SV, v = s.1 := by
  obtain ⟨p, c, hf⟩ := h.form
  exact ⟨⟨v, p, _, c, hf⟩, rfl⟩
theorem newBytes_sv {w w' : World} {v : Value} {s : List UInt8} (h : NewBytes w w' v s) : ∃ s : SV, v = s.1 := bytes_sv h.slice
theorem slice_at26 (g : Nat) (w : World) : (Instr.sliceAt 25 (.pointer (some ⟨g, 26, none⟩)) none none none).run Tryz.prog w = .ok (.slice (some ⟨g, 26, none⟩) 20 20) w := by kernel_rfl
theorem rq_class_slice {w : World} {g : Nat} {k u wh : Int} {nm : List UInt8} {vb : Value} {ph pn ch : List UInt8} (h : Blk w g 29 (rqG k u wh nm vb ph pn ch)) (hl : ph.length = 20) (hc : ch.length = 20) : SliceOf EB w (.slice (some ⟨g, 26, none⟩) 20 20) ch := by
  refine .inr ⟨_, 20, by rw [hc], h.lt, fun j v hj => ?_⟩
  rw [add_plain, h.cell]
  refine rqG_class hl j v ?_
  rw [flat_bytes] at hj
  simpa [hC] using hj
end Go.Proofs.YtpnolgliklmnmaaGreat
/-! spenceref28: text, path. -/
namespace Go.Proofs.YtpnolgliklmnmaaGreat
open Go.RowKit Pl Go.Agg
set_option maxRecDepth 100000 in
set_option maxHeartbeats 1000000 in
theorem refText_any (h n : List UInt8) (hl : h.length = 20) (hn : n.length ≤ 16777216) (w : World) : Calls Tryz.prog 48 #[.agg (pC h n)] w fun e w' => ∃ v, e = .returned v ∧ BytesAt w' v (pathS h n) ∧ (∀ k, v.ownBlock = some k → w.heap.size ≤ k) ∧ Below w.heap.size w w' := by
  have HQ := Lib.hid (fun W => eql_path h n z20 [] hl rfl W)
  obtain ⟨z, hz⟩ : ∃ z, (h == z20 && n == []) = z := ⟨_, rfl⟩
  rw [hz] at HQ
  have HZ := Lib.hid hz
  clear hz
  cases z with
  | true =>
    have HR := Lib.hid (show pathS h n = [] from by
      have h1 := HZ.out
      simp only [Bool.and_eq_true, beq_iff_eq] at h1
      rw [h1.1, h1.2]
      exact pathS_none isName_nil)
    go_enter Tryz.func48, Tryz.ntmps48
    go_wp2_with (first | (with_reducible refine Agg.wpList_box rfl 27 _ rfl (pC h n) rfl ?_; intro g w0 hb hx1 hg; have HP := Lib.hid (PL.of_blk hb hl); have HX1 := Lib.hid hx1; clear hb hx1 hg) | (with_reducible refine Agg.wpList_loadL HP.out.all rfl _ rfl rfl ?_) | (with_reducible refine Agg.wpList_build0 27 rfl rfl (.agg (pC z20 [])) build_p0 ?_) | (with_reducible refine Agg.wpList_eqlw 27 27 _ _ rfl rfl (pC h n) (pC z20 []) rfl rfl true (by kernel_rfl) HQ.out ?_))
    go_ret
    exact ⟨_, rfl, by rw [HR.out]; exact SliceOf.nil _ _ _, fun k hk => by simp [Value.ownBlock] at hk, HX1.out⟩
  | false =>
    go_enter Tryz.func48, Tryz.ntmps48
    go_wp2_with (first | (with_reducible refine Agg.wpList_box rfl 27 _ rfl (pC h n) rfl ?_; intro g w0 hb hx1 hg; have HP := Lib.hid (PL.of_blk hb hl); have HX1 := Lib.hid hx1; clear hb hx1 hg) | (with_reducible refine Agg.wpList_loadL HP.out.all rfl _ rfl rfl ?_) | (with_reducible refine Agg.wpList_build0 27 rfl rfl (.agg (pC z20 [])) build_p0 ?_) | (with_reducible refine Agg.wpList_eqlw 27 27 _ _ rfl rfl (pC h n) (pC z20 []) rfl rfl false (by kernel_rfl) HQ.out ?_))
    refine (refPath_any h n hl (by omega) _).mono ?_
    rintro e w1 ⟨rfl, hx1⟩
    have hx1 := Agg.belowThen HX1.out (Nat.le_refl _) hx1
    go_wp2_with (first | (with_reducible refine wpList_toBytes (pathS h n) _ rfl (by kernel_rfl) rfl ?_; intro v2 w2 hn2 hx2; have HN2 := Lib.hid hn2; have HX2 := Lib.hid hx2; clear hn2 hx2))
    go_ret
    exact ⟨v2, rfl, HN2.out.slice, fun k hk => Nat.le_trans hx1.size (newBytes_own HN2.out k hk), Agg.belowThen hx1 (Nat.le_refl _) HX2.out⟩
theorem CrS.keep {base gc : Nat} {w w' : World} {s : Option (List UInt8)} {g : Nat} {t : TypeId} {cs : Array Value} (h : CrS base gc w s) (ho : Only (· = g) w w') (hb : Blk w g t cs) (h1 : t ≠ 97) (h2 : t ≠ 5) : CrS base gc w' s := by
  obtain ⟨v, r, e, hv, h3, h4⟩ := h
  refine ⟨v, r, e, ⟨hv.blk.only ho (fun e => h1 ?_), restKeepT hv.rest fun k cur fr hk => (ho.block k (Agg.heap_lt hk) fun e => h2 ?_).trans hk⟩, h3, h4⟩
  · subst e; exact hb.type hv.blk
  · subst e
    unfold Blk at hb
    rw [hb] at hk
    injection hk with hk
    injection hk with _ hk
set_option maxRecDepth 100000 in
set_option maxHeartbeats 2000000 in
theorem refGetPath_any (base g : Nat) (s : Option (List UInt8)) (w : World) (hl : stLen s ≤ 16777216) (h : CrS base g w s) :
    Calls Tryz.prog 61 #[.pointer (some ⟨g, 0, none⟩)] w fun e w' => e = .returned (.agg (pC (parseH (sText 57 s).1) (parseN (sText 57 s).1))) ∧ CrS base g w' (sText 57 s).2 ∧ Only (fun k => k = g) w w' := by
  have hle := sText_le 57 s
  obtain ⟨l, s', hls⟩ : ∃ l s', sText 57 s = (l, s') := ⟨_, _, rfl⟩
  simp only [hls] at hle ⊢
  have HLS := Lib.hid hls
  have HC := Lib.hid h
  have HPL := Lib.hid (parseH_length l)
  clear hls h
  go_enter Tryz.func61, Tryz.ntmps61
  go_wp2_with (first | (with_reducible refine Agg.wpList_zero rfl 27 rfl (pC z20 []) pC_zero ?_; intro gr w1 hb hx hg; have HB := Lib.hid hb; have HX := Lib.hid hx; have HC1 := Lib.hid (HC.out.below hx); clear hb hx))
  refine (rctext_any base g 57 s _ hl HC1.out).mono ?_
  rintro x w2 ⟨u, rfl, hu, hc, ho⟩
  rw [HLS.out] at hu hc
  have hgc : gr ≠ g := by
    rintro rfl
    obtain ⟨v, r, e, hv, _⟩ := HC1.out
    exact absurd (HB.out.type hv.blk) (by decide)
  have HB2 := Lib.hid (HB.out.only ho hgc)
  have HC2 := Lib.hid hc
  have HU := Lib.hid hu.slice
  have HO2 := Lib.hid ((Only.of_below (S := fun k => k = g) HX.out).trans ho fun _ _ h => h)
  clear hu hc ho
  go_wp2_with (first | (with_reducible refine wpList_toStr HU.out _ rfl (by kernel_rfl) rfl ?_))
  refine (refParse_any l (by omega) _).mono ?_
  rintro e w3 ⟨rfl, hx3⟩
  have HB3 := Lib.hid (HB2.out.below hx3)
  have HC3 := Lib.hid (HC2.out.below hx3)
  have HO3 := Lib.hid (HO2.out.trans (Only.of_below (S := fun k => k = g) hx3) fun _ _ h => h)
  clear hx3
  go_wp2_with (first | (refine Agg.wpList_new rfl rfl rfl 27 3 10 rfl rfl rfl (by decide) (pC z20 []) (pC (parseH l) (parseN l)) pC_zero (by rw [pC_size, pC_size, HPL.out]; rfl) (pC_info _ _ HPL.out) (pC_one _ _) rfl (by first | (simp; done) | simp [Act.put]) ?_; intro g4 w4 hb4 hx4 hg4; have HB4 := Lib.hid hb4; have HX4 := Lib.hid hx4; have HR4 := Lib.hid (HB3.out.below hx4); have HC4 := Lib.hid (HC3.out.below hx4); clear hb4 hx4) | (with_reducible refine Agg.wpList_loadL (HB4.out.loads (P := Tryz.prog) pC_under rfl (pC_info _ _ HPL.out)) rfl _ rfl rfl ?_) | (refine Agg.wpList_put rfl rfl 27 _ _ rfl gr (pC (parseH l) (parseN l)) (pC z20 []) rfl rfl HR4.out (pC_info _ _ HPL.out) (by rw [pC_size, pC_size, HPL.out]; rfl) (pC_one _ _) ?_; intro w6 hb6 hx6 hs6 hk6))
  have ho6 : Only (· = gr) w4 w6 := Only.of_eq hx6 hs6 hk6 rfl
  exact Agg.post_row rfl rfl hb6 pC_under rfl (pC_info _ _ HPL.out) rfl ⟨rfl, HC4.out.keep ho6 HR4.out (by decide) (by decide), ((HO3.out.trans (Only.of_below (S := fun _ => False) HX4.out) (fun _ _ h => h.elim)).trans ho6 fun i hi h => by omega)⟩
end Go.Proofs.YtpnolgliklmnmaaGreat
/-! spenceref28.Right: what it says, in letters. -/
namespace Go.Proofs.YtpnolgliklmnmaaGreat
open Go.RowKit Pl Go.Agg
def refL (P : Nat) (k1 k2 u1 u2 w1 w2 w0 a5 a6 a7 a8 a9 l0 lm : Bool) : Bool :=
  k1 && (k2 && (u1 && (u2 && ((if hasN P 4 then a8 else if hasN P 8 then (a7 || a8) else a7) && ((if hasN P 2 then a5 else a6) && ((if hasN P 1 then (w1 && w2) else w0) && ((l0 || (hasN P 32 && lm)) && (hasN P 16 || a9))))))))
def refB (P : Nat) (k u wh : Int) (nm : List UInt8) (n : Nat) (ph pn ch : List UInt8) : Bool :=
  refL P (decide (1 ≤ k)) (decide (k ≤ 10)) (decide (1 ≤ u)) (decide (u ≤ 8)) (decide (1 ≤ wh)) (decide (wh ≤ 16)) (wh == 0) (isName nm) (nm == []) (ph == z20 && pn == []) (isName pn) (ch == z20) ((n : Int) == 0) (decide ((n : Int) ≤ if P = 32 then 2000 else 4096))
theorem RqG.pname2 {w : World} {g : Nat} {k u wh : Int} {nm : List UInt8} {vb : Value} {ph pn ch : List UInt8} (h : Blk w g 29 (rqG k u wh nm vb ph pn ch)) (hl : ph.length = 20) : LoadsL Tryz.prog w 9 (some ⟨g, 25, none⟩) (.string ⟨pn.toArray⟩) :=
  h.one 25 (rqG_path hl 20 _ (pC_name ph pn hl)) Tryz.underlying9 rfl
theorem build_h0 (W : World) : (Instr.build 25 #[]).run Tryz.prog W = .ok (.agg (hC z20)) W := by kernel_rfl
theorem kind_two {k : Int} {P : Nat} (h : partsN k = P) (hq : k = 2) : P = 32 := by subst hq; rw [← h]; rfl
theorem kind_32 {k : Int} (h : partsN k = 32) : k = 2 := by
  unfold partsN at h
  repeat' split at h
  all_goals first | assumption | omega
theorem refIn_is {s : List UInt8} {c : Nat} {b : Bool} (h : inN s c = b) (hs : s.length ≤ 8) (hc : c < 256) (w : World) : Calls Tryz.prog 46 #[.string ⟨s.toArray⟩, .int .u8 (c : Int)] w fun e w' => e = .returned (.bool b) ∧ w' = w := by
  have := refIn_any s c (by omega) hc w
  rwa [h] at this
end Go.Proofs.YtpnolgliklmnmaaGreat
/-! spenceref28.Right. -/
namespace Go.Proofs.YtpnolgliklmnmaaGreat
open Go.RowKit Pl Go.Agg
set_option maxRecDepth 100000 in
set_option maxHeartbeats 16000000 in
theorem refRight_34 (k u wh : Int) (nm : List UInt8) (vb : Value) (bs ph pn ch : List UInt8) (hP : partsN k = 34) (hl : ph.length = 20) (hc : ch.length = 20) (hn : nm.length ≤ 1048576) (hpn : pn.length ≤ 1048576) (w : World) (hb : BytesAt w vb bs) :
    Calls Tryz.prog 14 #[.agg (rqG k u wh nm vb ph pn ch)] w fun e w' => e = .returned (.bool (refB 34 k u wh nm bs.length ph pn ch)) ∧ Below w.heap.size w w' := by
  have hlen := fun W => bytes_len hb W
  have hta := bytes_toList nm
  have HW := Lib.hid (fun W => (show Calls Tryz.prog 44 #[.int .i64 k] W fun e w' => e = .returned (.string ⟨([110, 98] : List UInt8).toArray⟩) ∧ w' = W by have := refHas_any k W; rwa [hP] at this))
  have hk2 : (k == 2) = false := by rw [beq_eq_false_iff_ne]; intro hq; exact absurd (kind_two hP hq) (by decide)
  obtain ⟨a5, ha5⟩ : ∃ b, isName nm = b := ⟨_, rfl⟩
  obtain ⟨a6, ha6⟩ : ∃ b, (nm == []) = b := ⟨_, rfl⟩
  obtain ⟨a7, ha7⟩ : ∃ b, (ph == z20 && pn == []) = b := ⟨_, rfl⟩
  obtain ⟨a8, ha8⟩ : ∃ b, isName pn = b := ⟨_, rfl⟩
  obtain ⟨a9, ha9⟩ : ∃ b, (ch == z20) = b := ⟨_, rfl⟩
  have HNM := Lib.hid (fun W => (show Calls Tryz.prog 67 #[.string ⟨nm.toArray⟩] W fun e w' => e = .returned (.bool a5) ∧ W = w' by have := refName_any nm (by omega) W; rwa [ha5] at this))
  have HNP := Lib.hid (fun W => (show Calls Tryz.prog 67 #[.string ⟨pn.toArray⟩] W fun e w' => e = .returned (.bool a8) ∧ W = w' by have := refName_any pn (by omega) W; rwa [ha8] at this))
  have HEP := Lib.hid (fun W => (show (binOp .eql 27 (.agg (pC ph pn)) (.agg (pC z20 []))).run Tryz.prog W = .ok (.bool a7) W by rw [← ha7]; exact eql_path ph pn z20 [] hl rfl W))
  have HEH := Lib.hid (fun W => (show (binOp .eql 25 (.agg (hC ch)) (.agg (hC z20))).run Tryz.prog W = .ok (.bool a9) W by rw [← ha9]; exact eql_hash ch z20 hc rfl W))
  have HR := Lib.hid (show ∀ (n : Nat) (wh : Int), refB 34 k u wh nm n ph pn ch = refL 34 (decide (1 ≤ k)) (decide (k ≤ 10)) (decide (1 ≤ u)) (decide (u ≤ 8)) (decide (1 ≤ wh)) (decide (wh ≤ 16)) (wh == 0) a5 a6 a7 a8 a9 ((n : Int) == 0) (decide ((n : Int) ≤ 4096)) by intro n wh; unfold refB; rw [ha5, ha6, ha7, ha8, ha9]; rfl)
  clear hP hb ha5 ha7 ha8 ha9
  go_enter Tryz.func14, Tryz.ntmps14
  go_wp2_with (first | (with_reducible refine wpList_box rfl 29 _ rfl (rqG k u wh nm vb ph pn ch) rfl ?_; intro g w1 hb1 hx1 hg1; have HL := Lib.hid (RqG.of_blk hb1 hl hc); have HB := Lib.hid hb1; have HX := Lib.hid hx1; clear hb1 hx1 hg1) | (with_reducible refine wpList_loadL HL.out.kind rfl _ rfl rfl ?_))
  refine (HW.out _).mono ?_
  rintro e w2 ⟨rfl, rfl⟩
  rcases (show ((bs.length : Int) == 0) = true ∧ bs.length = 0 ∨ ((bs.length : Int) == 0) = false ∧ ¬ bs.length = 0 by by_cases h : bs.length = 0 <;> simp [h]) with ⟨hl0I, hl0⟩ | ⟨hl0I, hl0⟩
  all_goals repeat (first | ((with_reducible change Calls _ 46 #[_, .int .u8 112] _ _); refine (refIn_is (s := [110, 98]) (c := 112) (b := false) (by decide) (by decide) (by omega) _).mono ?_; rintro e w112 ⟨rfl, rfl⟩) | ((with_reducible change Calls _ 46 #[_, .int .u8 122] _ _); refine (refIn_is (s := [110, 98]) (c := 122) (b := false) (by decide) (by decide) (by omega) _).mono ?_; rintro e w122 ⟨rfl, rfl⟩) | ((with_reducible change Calls _ 46 #[_, .int .u8 110] _ _); refine (refIn_is (s := [110, 98]) (c := 110) (b := true) (by decide) (by decide) (by omega) _).mono ?_; rintro e w110 ⟨rfl, rfl⟩) | ((with_reducible change Calls _ 46 #[_, .int .u8 119] _ _); refine (refIn_is (s := [110, 98]) (c := 119) (b := false) (by decide) (by decide) (by omega) _).mono ?_; rintro e w119 ⟨rfl, rfl⟩) | ((with_reducible change Calls _ 46 #[_, .int .u8 99] _ _); refine (refIn_is (s := [110, 98]) (c := 99) (b := false) (by decide) (by decide) (by omega) _).mono ?_; rintro e w99 ⟨rfl, rfl⟩) | ((with_reducible change Calls _ 46 #[_, .int .u8 98] _ _); refine (refIn_is (s := [110, 98]) (c := 98) (b := true) (by decide) (by decide) (by omega) _).mono ?_; rintro e w98 ⟨rfl, rfl⟩) | ((with_reducible change Calls _ 67 #[.string ⟨pn.toArray⟩] _ _); refine (HNP.out _).mono ?_; rintro e w97 ⟨rfl, rfl⟩) | ((with_reducible change Calls _ 67 #[.string ⟨nm.toArray⟩] _ _); refine (HNM.out _).mono ?_; rintro e w96 ⟨rfl, rfl⟩) | (go_ret; exact ⟨ret_bool (by rw [HR.out]; simp [refL, hasN, *] <;> (intros; exfalso; omega)), HX.out⟩) | (show _; (fail_if_success with_reducible change bodyPost _ _ _ _ _ _); (fail_if_success with_reducible change Calls _ _ _ _ _); go_wp2_with (first | (with_reducible refine wpList_loadL HL.out.kind rfl _ rfl rfl ?_) | (with_reducible refine wpList_loadL HL.out.user rfl _ rfl rfl ?_) | (with_reducible refine wpList_loadL HL.out.who rfl _ rfl rfl ?_) | (with_reducible refine wpList_loadL HL.out.name rfl _ rfl rfl ?_) | (with_reducible refine wpList_loadL HL.out.bytes rfl _ rfl rfl ?_) | (with_reducible refine wpList_loadL HL.out.path rfl _ rfl rfl ?_) | (with_reducible refine wpList_loadL HL.out.cls rfl _ rfl rfl ?_) | (with_reducible refine wpList_loadL (RqG.pname2 HB.out hl) rfl _ rfl rfl ?_) | (with_reducible refine wpList_build0 27 rfl rfl (.agg (pC z20 [])) build_p0 ?_) | (with_reducible refine wpList_build0 25 rfl rfl (.agg (hC z20)) build_h0 ?_) | (with_reducible refine wpList_eqlw 27 27 _ _ rfl rfl (pC ph pn) (pC z20 []) rfl rfl a7 (by kernel_rfl) HEP.out ?_) | (with_reducible refine wpList_eqlw 25 25 _ _ rfl rfl (hC ch) (hC z20) rfl rfl a9 (by kernel_rfl) HEH.out ?_))))
set_option maxRecDepth 100000 in
set_option maxHeartbeats 16000000 in
theorem refRight_32 (k u wh : Int) (nm : List UInt8) (vb : Value) (bs ph pn ch : List UInt8) (hP : partsN k = 32) (hl : ph.length = 20) (hc : ch.length = 20) (hn : nm.length ≤ 1048576) (hpn : pn.length ≤ 1048576) (w : World) (hb : BytesAt w vb bs) :
    Calls Tryz.prog 14 #[.agg (rqG k u wh nm vb ph pn ch)] w fun e w' => e = .returned (.bool (refB 32 k u wh nm bs.length ph pn ch)) ∧ Below w.heap.size w w' := by
  have hlen := fun W => bytes_len hb W
  have hta := bytes_toList nm
  have HW := Lib.hid (fun W => (show Calls Tryz.prog 44 #[.int .i64 k] W fun e w' => e = .returned (.string ⟨([98] : List UInt8).toArray⟩) ∧ w' = W by have := refHas_any k W; rwa [hP] at this))
  have hk2 : (k == 2) = true := by rw [beq_iff_eq]; exact kind_32 hP
  obtain ⟨a5, ha5⟩ : ∃ b, isName nm = b := ⟨_, rfl⟩
  obtain ⟨a6, ha6⟩ : ∃ b, (nm == []) = b := ⟨_, rfl⟩
  obtain ⟨a7, ha7⟩ : ∃ b, (ph == z20 && pn == []) = b := ⟨_, rfl⟩
  obtain ⟨a8, ha8⟩ : ∃ b, isName pn = b := ⟨_, rfl⟩
  obtain ⟨a9, ha9⟩ : ∃ b, (ch == z20) = b := ⟨_, rfl⟩
  have HNM := Lib.hid (fun W => (show Calls Tryz.prog 67 #[.string ⟨nm.toArray⟩] W fun e w' => e = .returned (.bool a5) ∧ W = w' by have := refName_any nm (by omega) W; rwa [ha5] at this))
  have HNP := Lib.hid (fun W => (show Calls Tryz.prog 67 #[.string ⟨pn.toArray⟩] W fun e w' => e = .returned (.bool a8) ∧ W = w' by have := refName_any pn (by omega) W; rwa [ha8] at this))
  have HEP := Lib.hid (fun W => (show (binOp .eql 27 (.agg (pC ph pn)) (.agg (pC z20 []))).run Tryz.prog W = .ok (.bool a7) W by rw [← ha7]; exact eql_path ph pn z20 [] hl rfl W))
  have HEH := Lib.hid (fun W => (show (binOp .eql 25 (.agg (hC ch)) (.agg (hC z20))).run Tryz.prog W = .ok (.bool a9) W by rw [← ha9]; exact eql_hash ch z20 hc rfl W))
  have HR := Lib.hid (show ∀ (n : Nat) (wh : Int), refB 32 k u wh nm n ph pn ch = refL 32 (decide (1 ≤ k)) (decide (k ≤ 10)) (decide (1 ≤ u)) (decide (u ≤ 8)) (decide (1 ≤ wh)) (decide (wh ≤ 16)) (wh == 0) a5 a6 a7 a8 a9 ((n : Int) == 0) (decide ((n : Int) ≤ 2000)) by intro n wh; unfold refB; rw [ha5, ha6, ha7, ha8, ha9]; rfl)
  clear hP hb ha5 ha7 ha8 ha9
  go_enter Tryz.func14, Tryz.ntmps14
  go_wp2_with (first | (with_reducible refine wpList_box rfl 29 _ rfl (rqG k u wh nm vb ph pn ch) rfl ?_; intro g w1 hb1 hx1 hg1; have HL := Lib.hid (RqG.of_blk hb1 hl hc); have HB := Lib.hid hb1; have HX := Lib.hid hx1; clear hb1 hx1 hg1) | (with_reducible refine wpList_loadL HL.out.kind rfl _ rfl rfl ?_))
  refine (HW.out _).mono ?_
  rintro e w2 ⟨rfl, rfl⟩
  rcases (show ((bs.length : Int) == 0) = true ∧ bs.length = 0 ∨ ((bs.length : Int) == 0) = false ∧ ¬ bs.length = 0 by by_cases h : bs.length = 0 <;> simp [h]) with ⟨hl0I, hl0⟩ | ⟨hl0I, hl0⟩
  all_goals repeat (first | ((with_reducible change Calls _ 46 #[_, .int .u8 112] _ _); refine (refIn_is (s := [98]) (c := 112) (b := false) (by decide) (by decide) (by omega) _).mono ?_; rintro e w112 ⟨rfl, rfl⟩) | ((with_reducible change Calls _ 46 #[_, .int .u8 122] _ _); refine (refIn_is (s := [98]) (c := 122) (b := false) (by decide) (by decide) (by omega) _).mono ?_; rintro e w122 ⟨rfl, rfl⟩) | ((with_reducible change Calls _ 46 #[_, .int .u8 110] _ _); refine (refIn_is (s := [98]) (c := 110) (b := false) (by decide) (by decide) (by omega) _).mono ?_; rintro e w110 ⟨rfl, rfl⟩) | ((with_reducible change Calls _ 46 #[_, .int .u8 119] _ _); refine (refIn_is (s := [98]) (c := 119) (b := false) (by decide) (by decide) (by omega) _).mono ?_; rintro e w119 ⟨rfl, rfl⟩) | ((with_reducible change Calls _ 46 #[_, .int .u8 99] _ _); refine (refIn_is (s := [98]) (c := 99) (b := false) (by decide) (by decide) (by omega) _).mono ?_; rintro e w99 ⟨rfl, rfl⟩) | ((with_reducible change Calls _ 46 #[_, .int .u8 98] _ _); refine (refIn_is (s := [98]) (c := 98) (b := true) (by decide) (by decide) (by omega) _).mono ?_; rintro e w98 ⟨rfl, rfl⟩) | ((with_reducible change Calls _ 67 #[.string ⟨pn.toArray⟩] _ _); refine (HNP.out _).mono ?_; rintro e w97 ⟨rfl, rfl⟩) | ((with_reducible change Calls _ 67 #[.string ⟨nm.toArray⟩] _ _); refine (HNM.out _).mono ?_; rintro e w96 ⟨rfl, rfl⟩) | (go_ret; exact ⟨ret_bool (by rw [HR.out]; simp [refL, hasN, *] <;> (intros; exfalso; omega)), HX.out⟩) | (show _; (fail_if_success with_reducible change bodyPost _ _ _ _ _ _); (fail_if_success with_reducible change Calls _ _ _ _ _); go_wp2_with (first | (with_reducible refine wpList_loadL HL.out.kind rfl _ rfl rfl ?_) | (with_reducible refine wpList_loadL HL.out.user rfl _ rfl rfl ?_) | (with_reducible refine wpList_loadL HL.out.who rfl _ rfl rfl ?_) | (with_reducible refine wpList_loadL HL.out.name rfl _ rfl rfl ?_) | (with_reducible refine wpList_loadL HL.out.bytes rfl _ rfl rfl ?_) | (with_reducible refine wpList_loadL HL.out.path rfl _ rfl rfl ?_) | (with_reducible refine wpList_loadL HL.out.cls rfl _ rfl rfl ?_) | (with_reducible refine wpList_loadL (RqG.pname2 HB.out hl) rfl _ rfl rfl ?_) | (with_reducible refine wpList_build0 27 rfl rfl (.agg (pC z20 [])) build_p0 ?_) | (with_reducible refine wpList_build0 25 rfl rfl (.agg (hC z20)) build_h0 ?_) | (with_reducible refine wpList_eqlw 27 27 _ _ rfl rfl (pC ph pn) (pC z20 []) rfl rfl a7 (by kernel_rfl) HEP.out ?_) | (with_reducible refine wpList_eqlw 25 25 _ _ rfl rfl (hC ch) (hC z20) rfl rfl a9 (by kernel_rfl) HEH.out ?_))))
set_option maxRecDepth 100000 in
set_option maxHeartbeats 16000000 in
theorem refRight_16 (k u wh : Int) (nm : List UInt8) (vb : Value) (bs ph pn ch : List UInt8) (hP : partsN k = 16) (hl : ph.length = 20) (hc : ch.length = 20) (hn : nm.length ≤ 1048576) (hpn : pn.length ≤ 1048576) (w : World) (hb : BytesAt w vb bs) :
    Calls Tryz.prog 14 #[.agg (rqG k u wh nm vb ph pn ch)] w fun e w' => e = .returned (.bool (refB 16 k u wh nm bs.length ph pn ch)) ∧ Below w.heap.size w w' := by
  have hlen := fun W => bytes_len hb W
  have hta := bytes_toList nm
  have HW := Lib.hid (fun W => (show Calls Tryz.prog 44 #[.int .i64 k] W fun e w' => e = .returned (.string ⟨([99] : List UInt8).toArray⟩) ∧ w' = W by have := refHas_any k W; rwa [hP] at this))
  have hk2 : (k == 2) = false := by rw [beq_eq_false_iff_ne]; intro hq; exact absurd (kind_two hP hq) (by decide)
  obtain ⟨a5, ha5⟩ : ∃ b, isName nm = b := ⟨_, rfl⟩
  obtain ⟨a6, ha6⟩ : ∃ b, (nm == []) = b := ⟨_, rfl⟩
  obtain ⟨a7, ha7⟩ : ∃ b, (ph == z20 && pn == []) = b := ⟨_, rfl⟩
  obtain ⟨a8, ha8⟩ : ∃ b, isName pn = b := ⟨_, rfl⟩
  obtain ⟨a9, ha9⟩ : ∃ b, (ch == z20) = b := ⟨_, rfl⟩
  have HNM := Lib.hid (fun W => (show Calls Tryz.prog 67 #[.string ⟨nm.toArray⟩] W fun e w' => e = .returned (.bool a5) ∧ W = w' by have := refName_any nm (by omega) W; rwa [ha5] at this))
  have HNP := Lib.hid (fun W => (show Calls Tryz.prog 67 #[.string ⟨pn.toArray⟩] W fun e w' => e = .returned (.bool a8) ∧ W = w' by have := refName_any pn (by omega) W; rwa [ha8] at this))
  have HEP := Lib.hid (fun W => (show (binOp .eql 27 (.agg (pC ph pn)) (.agg (pC z20 []))).run Tryz.prog W = .ok (.bool a7) W by rw [← ha7]; exact eql_path ph pn z20 [] hl rfl W))
  have HEH := Lib.hid (fun W => (show (binOp .eql 25 (.agg (hC ch)) (.agg (hC z20))).run Tryz.prog W = .ok (.bool a9) W by rw [← ha9]; exact eql_hash ch z20 hc rfl W))
  have HR := Lib.hid (show ∀ (n : Nat) (wh : Int), refB 16 k u wh nm n ph pn ch = refL 16 (decide (1 ≤ k)) (decide (k ≤ 10)) (decide (1 ≤ u)) (decide (u ≤ 8)) (decide (1 ≤ wh)) (decide (wh ≤ 16)) (wh == 0) a5 a6 a7 a8 a9 ((n : Int) == 0) (decide ((n : Int) ≤ 4096)) by intro n wh; unfold refB; rw [ha5, ha6, ha7, ha8, ha9]; rfl)
  clear hP hb ha5 ha7 ha8 ha9
  go_enter Tryz.func14, Tryz.ntmps14
  go_wp2_with (first | (with_reducible refine wpList_box rfl 29 _ rfl (rqG k u wh nm vb ph pn ch) rfl ?_; intro g w1 hb1 hx1 hg1; have HL := Lib.hid (RqG.of_blk hb1 hl hc); have HB := Lib.hid hb1; have HX := Lib.hid hx1; clear hb1 hx1 hg1) | (with_reducible refine wpList_loadL HL.out.kind rfl _ rfl rfl ?_))
  refine (HW.out _).mono ?_
  rintro e w2 ⟨rfl, rfl⟩
  rcases (show ((bs.length : Int) == 0) = true ∧ bs.length = 0 ∨ ((bs.length : Int) == 0) = false ∧ ¬ bs.length = 0 by by_cases h : bs.length = 0 <;> simp [h]) with ⟨hl0I, hl0⟩ | ⟨hl0I, hl0⟩
  all_goals repeat (first | ((with_reducible change Calls _ 46 #[_, .int .u8 112] _ _); refine (refIn_is (s := [99]) (c := 112) (b := false) (by decide) (by decide) (by omega) _).mono ?_; rintro e w112 ⟨rfl, rfl⟩) | ((with_reducible change Calls _ 46 #[_, .int .u8 122] _ _); refine (refIn_is (s := [99]) (c := 122) (b := false) (by decide) (by decide) (by omega) _).mono ?_; rintro e w122 ⟨rfl, rfl⟩) | ((with_reducible change Calls _ 46 #[_, .int .u8 110] _ _); refine (refIn_is (s := [99]) (c := 110) (b := false) (by decide) (by decide) (by omega) _).mono ?_; rintro e w110 ⟨rfl, rfl⟩) | ((with_reducible change Calls _ 46 #[_, .int .u8 119] _ _); refine (refIn_is (s := [99]) (c := 119) (b := false) (by decide) (by decide) (by omega) _).mono ?_; rintro e w119 ⟨rfl, rfl⟩) | ((with_reducible change Calls _ 46 #[_, .int .u8 99] _ _); refine (refIn_is (s := [99]) (c := 99) (b := true) (by decide) (by decide) (by omega) _).mono ?_; rintro e w99 ⟨rfl, rfl⟩) | ((with_reducible change Calls _ 46 #[_, .int .u8 98] _ _); refine (refIn_is (s := [99]) (c := 98) (b := false) (by decide) (by decide) (by omega) _).mono ?_; rintro e w98 ⟨rfl, rfl⟩) | ((with_reducible change Calls _ 67 #[.string ⟨pn.toArray⟩] _ _); refine (HNP.out _).mono ?_; rintro e w97 ⟨rfl, rfl⟩) | ((with_reducible change Calls _ 67 #[.string ⟨nm.toArray⟩] _ _); refine (HNM.out _).mono ?_; rintro e w96 ⟨rfl, rfl⟩) | (go_ret; exact ⟨ret_bool (by rw [HR.out]; simp [refL, hasN, *] <;> (intros; exfalso; omega)), HX.out⟩) | (show _; (fail_if_success with_reducible change bodyPost _ _ _ _ _ _); (fail_if_success with_reducible change Calls _ _ _ _ _); go_wp2_with (first | (with_reducible refine wpList_loadL HL.out.kind rfl _ rfl rfl ?_) | (with_reducible refine wpList_loadL HL.out.user rfl _ rfl rfl ?_) | (with_reducible refine wpList_loadL HL.out.who rfl _ rfl rfl ?_) | (with_reducible refine wpList_loadL HL.out.name rfl _ rfl rfl ?_) | (with_reducible refine wpList_loadL HL.out.bytes rfl _ rfl rfl ?_) | (with_reducible refine wpList_loadL HL.out.path rfl _ rfl rfl ?_) | (with_reducible refine wpList_loadL HL.out.cls rfl _ rfl rfl ?_) | (with_reducible refine wpList_loadL (RqG.pname2 HB.out hl) rfl _ rfl rfl ?_) | (with_reducible refine wpList_build0 27 rfl rfl (.agg (pC z20 [])) build_p0 ?_) | (with_reducible refine wpList_build0 25 rfl rfl (.agg (hC z20)) build_h0 ?_) | (with_reducible refine wpList_eqlw 27 27 _ _ rfl rfl (pC ph pn) (pC z20 []) rfl rfl a7 (by kernel_rfl) HEP.out ?_) | (with_reducible refine wpList_eqlw 25 25 _ _ rfl rfl (hC ch) (hC z20) rfl rfl a9 (by kernel_rfl) HEH.out ?_))))
end Go.Proofs.YtpnolgliklmnmaaGreat
