/- spenceref28.Right of any request: what wire.Right says. (Several texts in one.) -/
import Derived.Test.YtpnolgliklmnmaaGreatGAT
import Derived.Test.YtpnolgliklmnmaaGreatRefR2
/-! spenceref28.Right. -/
namespace Go.Proofs.YtpnolgliklmnmaaGreat
open Go.RowKit Pl Go.Agg
set_option maxRecDepth 100000 in
set_option maxHeartbeats 16000000 in
theorem refRight_36 (k u wh : Int) (nm : List UInt8) (vb : Value) (bs ph pn ch : List UInt8) (hP : partsN k = 36) (hl : ph.length = 20) (hc : ch.length = 20) (hn : nm.length ≤ 1048576) (hpn : pn.length ≤ 1048576) (w : World) (hb : BytesAt w vb bs) :
    Calls Tryz.prog 14 #[.agg (rqG k u wh nm vb ph pn ch)] w fun e w' => e = .returned (.bool (refB 36 k u wh nm bs.length ph pn ch)) ∧ Below w.heap.size w w' := by
  have hlen := fun W => bytes_len hb W
  have hta := bytes_toList nm
  have HW := Lib.hid (fun W => (show Calls Tryz.prog 44 #[.int .i64 k] W fun e w' => e = .returned (.string ⟨([112, 98] : List UInt8).toArray⟩) ∧ w' = W by have := refHas_any k W; rwa [hP] at this))
  have hk2 : (k == 2) = false := by rw [beq_eq_false_iff_ne]; intro hq; exact absurd (kind_two hP hq) (by decide)
  obtain ⟨a5, ha5⟩ : ∃ b, isName nm = b := ⟨_, rfl⟩
  obtain ⟨a6, ha6⟩ : ∃ b, (nm == []) = b := ⟨_, rfl⟩
  obtain ⟨a7, ha7⟩ : ∃ b, (ph == z20 && pn == []) = b := ⟨_, rfl⟩
  obtain ⟨a8, ha8⟩ : ∃ b, isName pn = b := ⟨_, rfl⟩
  obtain ⟨a9, ha9⟩ : ∃ b, (ch == z20) = b := ⟨_, rfl⟩
  have HNM := Lib.hid (fun W => (show Calls Tryz.prog 67 #[.string ⟨nm.toArray⟩] W fun e w' => e = .returned (.bool a5) ∧ W = w' by have := refName_any nm (by omega) W; rwa [ha5] at this))
  have HNP := Lib.hid (fun W => (show Calls Tryz.prog 67 #[.string ⟨pn.toArray⟩] W fun e w' => e = .returned (.bool a8) ∧ W = w' by have := refName_any pn (by omega) W; rwa [ha8] at this))
  have HEP := Lib.hid (fun W => (show (binOp .eql 27 (.agg (pC ph pn)) (.agg (pC z20 []))).run Tryz.prog W = .ok (.bool a7) W by rw [← ha7]; exact eql_path ph pn z20 [] hl rfl W))
  have HEH := Lib.hid (fun W => (show (binOp .eql 25 (.agg (hC ch)) (.agg (hC z20))).run Tryz.prog W = .ok (.bool a9) W by rw [← ha9]; exact eql_hash ch z20 hc rfl W))
  have HR := Lib.hid (show ∀ (n : Nat) (wh : Int), refB 36 k u wh nm n ph pn ch = refL 36 (decide (1 ≤ k)) (decide (k ≤ 10)) (decide (1 ≤ u)) (decide (u ≤ 8)) (decide (1 ≤ wh)) (decide (wh ≤ 16)) (wh == 0) a5 a6 a7 a8 a9 ((n : Int) == 0) (decide ((n : Int) ≤ 4096)) by intro n wh; unfold refB; rw [ha5, ha6, ha7, ha8, ha9]; rfl)
  clear hP hb ha5 ha7 ha8 ha9
  go_enter Tryz.func14, Tryz.ntmps14
  go_wp2_with (first | (with_reducible refine wpList_box rfl 29 _ rfl (rqG k u wh nm vb ph pn ch) rfl ?_; intro g w1 hb1 hx1 hg1; have HL := Lib.hid (RqG.of_blk hb1 hl hc); have HB := Lib.hid hb1; have HX := Lib.hid hx1; clear hb1 hx1 hg1) | (with_reducible refine wpList_loadL HL.out.kind rfl _ rfl rfl ?_))
  refine (HW.out _).mono ?_
  rintro e w2 ⟨rfl, rfl⟩
  rcases (show ((bs.length : Int) == 0) = true ∧ bs.length = 0 ∨ ((bs.length : Int) == 0) = false ∧ ¬ bs.length = 0 by by_cases h : bs.length = 0 <;> simp [h]) with ⟨hl0I, hl0⟩ | ⟨hl0I, hl0⟩
  all_goals repeat (first | ((with_reducible change Calls _ 46 #[_, .int .u8 112] _ _); refine (refIn_is (s := [112, 98]) (c := 112) (b := true) (by decide) (by decide) (by omega) _).mono ?_; rintro e w112 ⟨rfl, rfl⟩) | ((with_reducible change Calls _ 46 #[_, .int .u8 122] _ _); refine (refIn_is (s := [112, 98]) (c := 122) (b := false) (by decide) (by decide) (by omega) _).mono ?_; rintro e w122 ⟨rfl, rfl⟩) | ((with_reducible change Calls _ 46 #[_, .int .u8 110] _ _); refine (refIn_is (s := [112, 98]) (c := 110) (b := false) (by decide) (by decide) (by omega) _).mono ?_; rintro e w110 ⟨rfl, rfl⟩) | ((with_reducible change Calls _ 46 #[_, .int .u8 119] _ _); refine (refIn_is (s := [112, 98]) (c := 119) (b := false) (by decide) (by decide) (by omega) _).mono ?_; rintro e w119 ⟨rfl, rfl⟩) | ((with_reducible change Calls _ 46 #[_, .int .u8 99] _ _); refine (refIn_is (s := [112, 98]) (c := 99) (b := false) (by decide) (by decide) (by omega) _).mono ?_; rintro e w99 ⟨rfl, rfl⟩) | ((with_reducible change Calls _ 46 #[_, .int .u8 98] _ _); refine (refIn_is (s := [112, 98]) (c := 98) (b := true) (by decide) (by decide) (by omega) _).mono ?_; rintro e w98 ⟨rfl, rfl⟩) | ((with_reducible change Calls _ 67 #[.string ⟨pn.toArray⟩] _ _); refine (HNP.out _).mono ?_; rintro e w97 ⟨rfl, rfl⟩) | ((with_reducible change Calls _ 67 #[.string ⟨nm.toArray⟩] _ _); refine (HNM.out _).mono ?_; rintro e w96 ⟨rfl, rfl⟩) | (go_ret; exact ⟨ret_bool (by rw [HR.out]; simp [refL, hasN, *] <;> (intros; exfalso; omega)), HX.out⟩) | (show _; (fail_if_success with_reducible change bodyPost _ _ _ _ _ _); (fail_if_success with_reducible change Calls _ _ _ _ _); go_wp2_with (first | (with_reducible refine wpList_loadL HL.out.kind rfl _ rfl rfl ?_) | (with_reducible refine wpList_loadL HL.out.user rfl _ rfl rfl ?_) | (with_reducible refine wpList_loadL HL.out.who rfl _ rfl rfl ?_) | (with_reducible refine wpList_loadL HL.out.name rfl _ rfl rfl ?_) | (with_reducible refine wpList_loadL HL.out.bytes rfl _ rfl rfl ?_) | (with_reducible refine wpList_loadL HL.out.path rfl _ rfl rfl ?_) | (with_reducible refine wpList_loadL HL.out.cls rfl _ rfl rfl ?_) | (with_reducible refine wpList_loadL (RqG.pname2 HB.out hl) rfl _ rfl rfl ?_) | (with_reducible refine wpList_build0 27 rfl rfl (.agg (pC z20 [])) build_p0 ?_) | (with_reducible refine wpList_build0 25 rfl rfl (.agg (hC z20)) build_h0 ?_) | (with_reducible refine wpList_eqlw 27 27 _ _ rfl rfl (pC ph pn) (pC z20 []) rfl rfl a7 (by kernel_rfl) HEP.out ?_) | (with_reducible refine wpList_eqlw 25 25 _ _ rfl rfl (hC ch) (hC z20) rfl rfl a9 (by kernel_rfl) HEH.out ?_))))
set_option maxRecDepth 100000 in
set_option maxHeartbeats 16000000 in
theorem refRight_0 (k u wh : Int) (nm : List UInt8) (vb : Value) (bs ph pn ch : List UInt8) (hP : partsN k = 0) (hl : ph.length = 20) (hc : ch.length = 20) (hn : nm.length ≤ 1048576) (hpn : pn.length ≤ 1048576) (w : World) (hb : BytesAt w vb bs) :
    Calls Tryz.prog 14 #[.agg (rqG k u wh nm vb ph pn ch)] w fun e w' => e = .returned (.bool (refB 0 k u wh nm bs.length ph pn ch)) ∧ Below w.heap.size w w' := by
  have hlen := fun W => bytes_len hb W
  have hta := bytes_toList nm
  have HW := Lib.hid (fun W => (show Calls Tryz.prog 44 #[.int .i64 k] W fun e w' => e = .returned (.string ⟨([] : List UInt8).toArray⟩) ∧ w' = W by have := refHas_any k W; rwa [hP] at this))
  have hk2 : (k == 2) = false := by rw [beq_eq_false_iff_ne]; intro hq; exact absurd (kind_two hP hq) (by decide)
  obtain ⟨a5, ha5⟩ : ∃ b, isName nm = b := ⟨_, rfl⟩
  obtain ⟨a6, ha6⟩ : ∃ b, (nm == []) = b := ⟨_, rfl⟩
  obtain ⟨a7, ha7⟩ : ∃ b, (ph == z20 && pn == []) = b := ⟨_, rfl⟩
  obtain ⟨a8, ha8⟩ : ∃ b, isName pn = b := ⟨_, rfl⟩
  obtain ⟨a9, ha9⟩ : ∃ b, (ch == z20) = b := ⟨_, rfl⟩
  have HNM := Lib.hid (fun W => (show Calls Tryz.prog 67 #[.string ⟨nm.toArray⟩] W fun e w' => e = .returned (.bool a5) ∧ W = w' by have := refName_any nm (by omega) W; rwa [ha5] at this))
  have HNP := Lib.hid (fun W => (show Calls Tryz.prog 67 #[.string ⟨pn.toArray⟩] W fun e w' => e = .returned (.bool a8) ∧ W = w' by have := refName_any pn (by omega) W; rwa [ha8] at this))
  have HEP := Lib.hid (fun W => (show (binOp .eql 27 (.agg (pC ph pn)) (.agg (pC z20 []))).run Tryz.prog W = .ok (.bool a7) W by rw [← ha7]; exact eql_path ph pn z20 [] hl rfl W))
  have HEH := Lib.hid (fun W => (show (binOp .eql 25 (.agg (hC ch)) (.agg (hC z20))).run Tryz.prog W = .ok (.bool a9) W by rw [← ha9]; exact eql_hash ch z20 hc rfl W))
  have HR := Lib.hid (show ∀ (n : Nat) (wh : Int), refB 0 k u wh nm n ph pn ch = refL 0 (decide (1 ≤ k)) (decide (k ≤ 10)) (decide (1 ≤ u)) (decide (u ≤ 8)) (decide (1 ≤ wh)) (decide (wh ≤ 16)) (wh == 0) a5 a6 a7 a8 a9 ((n : Int) == 0) (decide ((n : Int) ≤ 4096)) by intro n wh; unfold refB; rw [ha5, ha6, ha7, ha8, ha9]; rfl)
  clear hP hb ha5 ha7 ha8 ha9
  go_enter Tryz.func14, Tryz.ntmps14
  go_wp2_with (first | (with_reducible refine wpList_box rfl 29 _ rfl (rqG k u wh nm vb ph pn ch) rfl ?_; intro g w1 hb1 hx1 hg1; have HL := Lib.hid (RqG.of_blk hb1 hl hc); have HB := Lib.hid hb1; have HX := Lib.hid hx1; clear hb1 hx1 hg1) | (with_reducible refine wpList_loadL HL.out.kind rfl _ rfl rfl ?_))
  refine (HW.out _).mono ?_
  rintro e w2 ⟨rfl, rfl⟩
  rcases (show ((bs.length : Int) == 0) = true ∧ bs.length = 0 ∨ ((bs.length : Int) == 0) = false ∧ ¬ bs.length = 0 by by_cases h : bs.length = 0 <;> simp [h]) with ⟨hl0I, hl0⟩ | ⟨hl0I, hl0⟩
  all_goals repeat (first | ((with_reducible change Calls _ 46 #[_, .int .u8 112] _ _); refine (refIn_is (s := []) (c := 112) (b := false) (by decide) (by decide) (by omega) _).mono ?_; rintro e w112 ⟨rfl, rfl⟩) | ((with_reducible change Calls _ 46 #[_, .int .u8 122] _ _); refine (refIn_is (s := []) (c := 122) (b := false) (by decide) (by decide) (by omega) _).mono ?_; rintro e w122 ⟨rfl, rfl⟩) | ((with_reducible change Calls _ 46 #[_, .int .u8 110] _ _); refine (refIn_is (s := []) (c := 110) (b := false) (by decide) (by decide) (by omega) _).mono ?_; rintro e w110 ⟨rfl, rfl⟩) | ((with_reducible change Calls _ 46 #[_, .int .u8 119] _ _); refine (refIn_is (s := []) (c := 119) (b := false) (by decide) (by decide) (by omega) _).mono ?_; rintro e w119 ⟨rfl, rfl⟩) | ((with_reducible change Calls _ 46 #[_, .int .u8 99] _ _); refine (refIn_is (s := []) (c := 99) (b := false) (by decide) (by decide) (by omega) _).mono ?_; rintro e w99 ⟨rfl, rfl⟩) | ((with_reducible change Calls _ 46 #[_, .int .u8 98] _ _); refine (refIn_is (s := []) (c := 98) (b := false) (by decide) (by decide) (by omega) _).mono ?_; rintro e w98 ⟨rfl, rfl⟩) | ((with_reducible change Calls _ 67 #[.string ⟨pn.toArray⟩] _ _); refine (HNP.out _).mono ?_; rintro e w97 ⟨rfl, rfl⟩) | ((with_reducible change Calls _ 67 #[.string ⟨nm.toArray⟩] _ _); refine (HNM.out _).mono ?_; rintro e w96 ⟨rfl, rfl⟩) | (go_ret; exact ⟨ret_bool (by rw [HR.out]; simp [refL, hasN, *] <;> (intros; exfalso; omega)), HX.out⟩) | (show _; (fail_if_success with_reducible change bodyPost _ _ _ _ _ _); (fail_if_success with_reducible change Calls _ _ _ _ _); go_wp2_with (first | (with_reducible refine wpList_loadL HL.out.kind rfl _ rfl rfl ?_) | (with_reducible refine wpList_loadL HL.out.user rfl _ rfl rfl ?_) | (with_reducible refine wpList_loadL HL.out.who rfl _ rfl rfl ?_) | (with_reducible refine wpList_loadL HL.out.name rfl _ rfl rfl ?_) | (with_reducible refine wpList_loadL HL.out.bytes rfl _ rfl rfl ?_) | (with_reducible refine wpList_loadL HL.out.path rfl _ rfl rfl ?_) | (with_reducible refine wpList_loadL HL.out.cls rfl _ rfl rfl ?_) | (with_reducible refine wpList_loadL (RqG.pname2 HB.out hl) rfl _ rfl rfl ?_) | (with_reducible refine wpList_build0 27 rfl rfl (.agg (pC z20 [])) build_p0 ?_) | (with_reducible refine wpList_build0 25 rfl rfl (.agg (hC z20)) build_h0 ?_) | (with_reducible refine wpList_eqlw 27 27 _ _ rfl rfl (pC ph pn) (pC z20 []) rfl rfl a7 (by kernel_rfl) HEP.out ?_) | (with_reducible refine wpList_eqlw 25 25 _ _ rfl rfl (hC ch) (hC z20) rfl rfl a9 (by kernel_rfl) HEH.out ?_))))
set_option maxRecDepth 100000 in
set_option maxHeartbeats 16000000 in
theorem refRight_8 (k u wh : Int) (nm : List UInt8) (vb : Value) (bs ph pn ch : List UInt8) (hP : partsN k = 8) (hl : ph.length = 20) (hc : ch.length = 20) (hn : nm.length ≤ 1048576) (hpn : pn.length ≤ 1048576) (w : World) (hb : BytesAt w vb bs) :
    Calls Tryz.prog 14 #[.agg (rqG k u wh nm vb ph pn ch)] w fun e w' => e = .returned (.bool (refB 8 k u wh nm bs.length ph pn ch)) ∧ Below w.heap.size w w' := by
  have hlen := fun W => bytes_len hb W
  have hta := Agg.bytes_toList nm
  have HW := Lib.hid (fun W => (show Calls Tryz.prog 44 #[.int .i64 k] W fun e w' => e = .returned (.string ⟨([122] : List UInt8).toArray⟩) ∧ w' = W by have := refHas_any k W; rwa [hP] at this))
  have hk2 : (k == 2) = false := by rw [beq_eq_false_iff_ne]; intro hq; exact absurd (kind_two hP hq) (by decide)
  obtain ⟨a5, ha5⟩ : ∃ b, isName nm = b := ⟨_, rfl⟩
  obtain ⟨a6, ha6⟩ : ∃ b, (nm == []) = b := ⟨_, rfl⟩
  obtain ⟨a7, ha7⟩ : ∃ b, (ph == z20 && pn == []) = b := ⟨_, rfl⟩
  obtain ⟨a8, ha8⟩ : ∃ b, isName pn = b := ⟨_, rfl⟩
  obtain ⟨a9, ha9⟩ : ∃ b, (ch == z20) = b := ⟨_, rfl⟩
  have HNM := Lib.hid (fun W => (show Calls Tryz.prog 67 #[.string ⟨nm.toArray⟩] W fun e w' => e = .returned (.bool a5) ∧ W = w' by have := refName_any nm (by omega) W; rwa [ha5] at this))
  have HNP := Lib.hid (fun W => (show Calls Tryz.prog 67 #[.string ⟨pn.toArray⟩] W fun e w' => e = .returned (.bool a8) ∧ W = w' by have := refName_any pn (by omega) W; rwa [ha8] at this))
  have HEP := Lib.hid (fun W => (show (binOp .eql 27 (.agg (pC ph pn)) (.agg (pC z20 []))).run Tryz.prog W = .ok (.bool a7) W by rw [← ha7]; exact eql_path ph pn z20 [] hl rfl W))
  have HEH := Lib.hid (fun W => (show (binOp .eql 25 (.agg (hC ch)) (.agg (hC z20))).run Tryz.prog W = .ok (.bool a9) W by rw [← ha9]; exact eql_hash ch z20 hc rfl W))
  have HR := Lib.hid (show ∀ (n : Nat) (wh : Int), refB 8 k u wh nm n ph pn ch = refL 8 (decide (1 ≤ k)) (decide (k ≤ 10)) (decide (1 ≤ u)) (decide (u ≤ 8)) (decide (1 ≤ wh)) (decide (wh ≤ 16)) (wh == 0) a5 a6 a7 a8 a9 ((n : Int) == 0) (decide ((n : Int) ≤ 4096)) by intro n wh; unfold refB; rw [ha5, ha6, ha7, ha8, ha9]; rfl)
  clear hP hb ha5 ha7 ha8 ha9
  go_enter Tryz.func14, Tryz.ntmps14
  go_wp2_with (first | (with_reducible refine Agg.wpList_box rfl 29 _ rfl (rqG k u wh nm vb ph pn ch) rfl ?_; intro g w1 hb1 hx1 hg; have HL := Lib.hid (RqG.of_blk hb1 hl hc); have HB := Lib.hid hb1; have HX := Lib.hid hx1; clear hb1 hx1 hg) | (with_reducible refine Agg.wpList_loadL HL.out.kind rfl _ rfl rfl ?_))
  refine (HW.out _).mono ?_
  rintro e w2 ⟨rfl, rfl⟩
  go_wp2_with (first | (with_reducible refine Agg.wpList_loadL HL.out.kind rfl _ rfl rfl ?_) | (with_reducible refine Agg.wpList_loadL HL.out.user rfl _ rfl rfl ?_) | (with_reducible refine Agg.wpList_loadL HL.out.who rfl _ rfl rfl ?_) | (with_reducible refine Agg.wpList_loadL HL.out.name rfl _ rfl rfl ?_) | (with_reducible refine Agg.wpList_loadL HL.out.bytes rfl _ rfl rfl ?_) | (with_reducible refine Agg.wpList_loadL HL.out.path rfl _ rfl rfl ?_) | (with_reducible refine Agg.wpList_loadL HL.out.cls rfl _ rfl rfl ?_) | (with_reducible refine Agg.wpList_loadL (RqG.pname2 HB.out hl) rfl _ rfl rfl ?_) | (with_reducible refine Agg.wpList_build0 27 rfl rfl (.agg (pC z20 [])) build_p0 ?_) | (with_reducible refine Agg.wpList_build0 25 rfl rfl (.agg (hC z20)) build_h0 ?_) | (with_reducible refine Agg.wpList_eqlw 27 27 _ _ rfl rfl (pC ph pn) (pC z20 []) rfl rfl a7 (by kernel_rfl) HEP.out ?_) | (with_reducible refine Agg.wpList_eqlw 25 25 _ _ rfl rfl (hC ch) (hC z20) rfl rfl a9 (by kernel_rfl) HEH.out ?_))
  refine (refIn_is (s := [122]) (c := 112) (b := false) (by decide) (by decide) (by omega) _).mono ?_
  rintro e w4 ⟨rfl, rfl⟩
  go_wp2_with (first | (with_reducible refine Agg.wpList_loadL HL.out.kind rfl _ rfl rfl ?_) | (with_reducible refine Agg.wpList_loadL HL.out.user rfl _ rfl rfl ?_) | (with_reducible refine Agg.wpList_loadL HL.out.who rfl _ rfl rfl ?_) | (with_reducible refine Agg.wpList_loadL HL.out.name rfl _ rfl rfl ?_) | (with_reducible refine Agg.wpList_loadL HL.out.bytes rfl _ rfl rfl ?_) | (with_reducible refine Agg.wpList_loadL HL.out.path rfl _ rfl rfl ?_) | (with_reducible refine Agg.wpList_loadL HL.out.cls rfl _ rfl rfl ?_) | (with_reducible refine Agg.wpList_loadL (RqG.pname2 HB.out hl) rfl _ rfl rfl ?_) | (with_reducible refine Agg.wpList_build0 27 rfl rfl (.agg (pC z20 [])) build_p0 ?_) | (with_reducible refine Agg.wpList_build0 25 rfl rfl (.agg (hC z20)) build_h0 ?_) | (with_reducible refine Agg.wpList_eqlw 27 27 _ _ rfl rfl (pC ph pn) (pC z20 []) rfl rfl a7 (by kernel_rfl) HEP.out ?_) | (with_reducible refine Agg.wpList_eqlw 25 25 _ _ rfl rfl (hC ch) (hC z20) rfl rfl a9 (by kernel_rfl) HEH.out ?_))
  refine (refIn_is (s := [122]) (c := 122) (b := true) (by decide) (by decide) (by omega) _).mono ?_
  rintro e w5 ⟨rfl, rfl⟩
  cases a7
  case false =>
    go_wp2_with (first | (with_reducible refine Agg.wpList_loadL HL.out.kind rfl _ rfl rfl ?_) | (with_reducible refine Agg.wpList_loadL HL.out.user rfl _ rfl rfl ?_) | (with_reducible refine Agg.wpList_loadL HL.out.who rfl _ rfl rfl ?_) | (with_reducible refine Agg.wpList_loadL HL.out.name rfl _ rfl rfl ?_) | (with_reducible refine Agg.wpList_loadL HL.out.bytes rfl _ rfl rfl ?_) | (with_reducible refine Agg.wpList_loadL HL.out.path rfl _ rfl rfl ?_) | (with_reducible refine Agg.wpList_loadL HL.out.cls rfl _ rfl rfl ?_) | (with_reducible refine Agg.wpList_loadL (RqG.pname2 HB.out hl) rfl _ rfl rfl ?_) | (with_reducible refine Agg.wpList_build0 27 rfl rfl (.agg (pC z20 [])) build_p0 ?_) | (with_reducible refine Agg.wpList_build0 25 rfl rfl (.agg (hC z20)) build_h0 ?_) | (with_reducible refine Agg.wpList_eqlw 27 27 _ _ rfl rfl (pC ph pn) (pC z20 []) rfl rfl a7 (by kernel_rfl) HEP.out ?_) | (with_reducible refine Agg.wpList_eqlw 25 25 _ _ rfl rfl (hC ch) (hC z20) rfl rfl a9 (by kernel_rfl) HEH.out ?_))
    refine (HNP.out _).mono ?_
    rintro e w97 ⟨rfl, rfl⟩
    go_wp2_with (first | (with_reducible refine Agg.wpList_loadL HL.out.kind rfl _ rfl rfl ?_) | (with_reducible refine Agg.wpList_loadL HL.out.user rfl _ rfl rfl ?_) | (with_reducible refine Agg.wpList_loadL HL.out.who rfl _ rfl rfl ?_) | (with_reducible refine Agg.wpList_loadL HL.out.name rfl _ rfl rfl ?_) | (with_reducible refine Agg.wpList_loadL HL.out.bytes rfl _ rfl rfl ?_) | (with_reducible refine Agg.wpList_loadL HL.out.path rfl _ rfl rfl ?_) | (with_reducible refine Agg.wpList_loadL HL.out.cls rfl _ rfl rfl ?_) | (with_reducible refine Agg.wpList_loadL (RqG.pname2 HB.out hl) rfl _ rfl rfl ?_) | (with_reducible refine Agg.wpList_build0 27 rfl rfl (.agg (pC z20 [])) build_p0 ?_) | (with_reducible refine Agg.wpList_build0 25 rfl rfl (.agg (hC z20)) build_h0 ?_) | (with_reducible refine Agg.wpList_eqlw 27 27 _ _ rfl rfl (pC ph pn) (pC z20 []) rfl rfl a7 (by kernel_rfl) HEP.out ?_) | (with_reducible refine Agg.wpList_eqlw 25 25 _ _ rfl rfl (hC ch) (hC z20) rfl rfl a9 (by kernel_rfl) HEH.out ?_))
    refine (refIn_is (s := [122]) (c := 110) (b := false) (by decide) (by decide) (by omega) _).mono ?_
    rintro e w6 ⟨rfl, rfl⟩
    go_wp2_with (first | (with_reducible refine Agg.wpList_loadL HL.out.kind rfl _ rfl rfl ?_) | (with_reducible refine Agg.wpList_loadL HL.out.user rfl _ rfl rfl ?_) | (with_reducible refine Agg.wpList_loadL HL.out.who rfl _ rfl rfl ?_) | (with_reducible refine Agg.wpList_loadL HL.out.name rfl _ rfl rfl ?_) | (with_reducible refine Agg.wpList_loadL HL.out.bytes rfl _ rfl rfl ?_) | (with_reducible refine Agg.wpList_loadL HL.out.path rfl _ rfl rfl ?_) | (with_reducible refine Agg.wpList_loadL HL.out.cls rfl _ rfl rfl ?_) | (with_reducible refine Agg.wpList_loadL (RqG.pname2 HB.out hl) rfl _ rfl rfl ?_) | (with_reducible refine Agg.wpList_build0 27 rfl rfl (.agg (pC z20 [])) build_p0 ?_) | (with_reducible refine Agg.wpList_build0 25 rfl rfl (.agg (hC z20)) build_h0 ?_) | (with_reducible refine Agg.wpList_eqlw 27 27 _ _ rfl rfl (pC ph pn) (pC z20 []) rfl rfl a7 (by kernel_rfl) HEP.out ?_) | (with_reducible refine Agg.wpList_eqlw 25 25 _ _ rfl rfl (hC ch) (hC z20) rfl rfl a9 (by kernel_rfl) HEH.out ?_))
    refine (refIn_is (s := [122]) (c := 119) (b := false) (by decide) (by decide) (by omega) _).mono ?_
    rintro e w7 ⟨rfl, rfl⟩
    by_cases hl0 : bs.length = 0
    · have hl0I : ((bs.length : Int) == 0) = true := by rw [beq_iff_eq]; omega
      go_wp2_with (first | (with_reducible refine Agg.wpList_loadL HL.out.kind rfl _ rfl rfl ?_) | (with_reducible refine Agg.wpList_loadL HL.out.user rfl _ rfl rfl ?_) | (with_reducible refine Agg.wpList_loadL HL.out.who rfl _ rfl rfl ?_) | (with_reducible refine Agg.wpList_loadL HL.out.name rfl _ rfl rfl ?_) | (with_reducible refine Agg.wpList_loadL HL.out.bytes rfl _ rfl rfl ?_) | (with_reducible refine Agg.wpList_loadL HL.out.path rfl _ rfl rfl ?_) | (with_reducible refine Agg.wpList_loadL HL.out.cls rfl _ rfl rfl ?_) | (with_reducible refine Agg.wpList_loadL (RqG.pname2 HB.out hl) rfl _ rfl rfl ?_) | (with_reducible refine Agg.wpList_build0 27 rfl rfl (.agg (pC z20 [])) build_p0 ?_) | (with_reducible refine Agg.wpList_build0 25 rfl rfl (.agg (hC z20)) build_h0 ?_) | (with_reducible refine Agg.wpList_eqlw 27 27 _ _ rfl rfl (pC ph pn) (pC z20 []) rfl rfl a7 (by kernel_rfl) HEP.out ?_) | (with_reducible refine Agg.wpList_eqlw 25 25 _ _ rfl rfl (hC ch) (hC z20) rfl rfl a9 (by kernel_rfl) HEH.out ?_))
      all_goals first
        | (refine (refIn_is (s := [122]) (c := 99) (b := false) (by decide) (by decide) (by omega) _).mono ?_
           rintro e w99 ⟨rfl, rfl⟩
           go_wp2_with (first | (with_reducible refine Agg.wpList_loadL HL.out.kind rfl _ rfl rfl ?_) | (with_reducible refine Agg.wpList_loadL HL.out.user rfl _ rfl rfl ?_) | (with_reducible refine Agg.wpList_loadL HL.out.who rfl _ rfl rfl ?_) | (with_reducible refine Agg.wpList_loadL HL.out.name rfl _ rfl rfl ?_) | (with_reducible refine Agg.wpList_loadL HL.out.bytes rfl _ rfl rfl ?_) | (with_reducible refine Agg.wpList_loadL HL.out.path rfl _ rfl rfl ?_) | (with_reducible refine Agg.wpList_loadL HL.out.cls rfl _ rfl rfl ?_) | (with_reducible refine Agg.wpList_loadL (RqG.pname2 HB.out hl) rfl _ rfl rfl ?_) | (with_reducible refine Agg.wpList_build0 27 rfl rfl (.agg (pC z20 [])) build_p0 ?_) | (with_reducible refine Agg.wpList_build0 25 rfl rfl (.agg (hC z20)) build_h0 ?_) | (with_reducible refine Agg.wpList_eqlw 27 27 _ _ rfl rfl (pC ph pn) (pC z20 []) rfl rfl a7 (by kernel_rfl) HEP.out ?_) | (with_reducible refine Agg.wpList_eqlw 25 25 _ _ rfl rfl (hC ch) (hC z20) rfl rfl a9 (by kernel_rfl) HEH.out ?_))
           all_goals (go_ret; exact ⟨ret_bool (by rw [HR.out]; simp [refL, hasN, *] <;> (intros; exfalso; omega)), HX.out⟩))
        | (go_ret; exact ⟨ret_bool (by rw [HR.out]; simp [refL, hasN, *] <;> (intros; exfalso; omega)), HX.out⟩)
    · have hl0I : ((bs.length : Int) == 0) = false := by rw [beq_eq_false_iff_ne]; omega
      go_wp2_with (first | (with_reducible refine Agg.wpList_loadL HL.out.kind rfl _ rfl rfl ?_) | (with_reducible refine Agg.wpList_loadL HL.out.user rfl _ rfl rfl ?_) | (with_reducible refine Agg.wpList_loadL HL.out.who rfl _ rfl rfl ?_) | (with_reducible refine Agg.wpList_loadL HL.out.name rfl _ rfl rfl ?_) | (with_reducible refine Agg.wpList_loadL HL.out.bytes rfl _ rfl rfl ?_) | (with_reducible refine Agg.wpList_loadL HL.out.path rfl _ rfl rfl ?_) | (with_reducible refine Agg.wpList_loadL HL.out.cls rfl _ rfl rfl ?_) | (with_reducible refine Agg.wpList_loadL (RqG.pname2 HB.out hl) rfl _ rfl rfl ?_) | (with_reducible refine Agg.wpList_build0 27 rfl rfl (.agg (pC z20 [])) build_p0 ?_) | (with_reducible refine Agg.wpList_build0 25 rfl rfl (.agg (hC z20)) build_h0 ?_) | (with_reducible refine Agg.wpList_eqlw 27 27 _ _ rfl rfl (pC ph pn) (pC z20 []) rfl rfl a7 (by kernel_rfl) HEP.out ?_) | (with_reducible refine Agg.wpList_eqlw 25 25 _ _ rfl rfl (hC ch) (hC z20) rfl rfl a9 (by kernel_rfl) HEH.out ?_))
      refine (refIn_is (s := [122]) (c := 98) (b := false) (by decide) (by decide) (by omega) _).mono ?_
      rintro e w98 ⟨rfl, rfl⟩
      go_wp2_with (first | (with_reducible refine Agg.wpList_loadL HL.out.kind rfl _ rfl rfl ?_) | (with_reducible refine Agg.wpList_loadL HL.out.user rfl _ rfl rfl ?_) | (with_reducible refine Agg.wpList_loadL HL.out.who rfl _ rfl rfl ?_) | (with_reducible refine Agg.wpList_loadL HL.out.name rfl _ rfl rfl ?_) | (with_reducible refine Agg.wpList_loadL HL.out.bytes rfl _ rfl rfl ?_) | (with_reducible refine Agg.wpList_loadL HL.out.path rfl _ rfl rfl ?_) | (with_reducible refine Agg.wpList_loadL HL.out.cls rfl _ rfl rfl ?_) | (with_reducible refine Agg.wpList_loadL (RqG.pname2 HB.out hl) rfl _ rfl rfl ?_) | (with_reducible refine Agg.wpList_build0 27 rfl rfl (.agg (pC z20 [])) build_p0 ?_) | (with_reducible refine Agg.wpList_build0 25 rfl rfl (.agg (hC z20)) build_h0 ?_) | (with_reducible refine Agg.wpList_eqlw 27 27 _ _ rfl rfl (pC ph pn) (pC z20 []) rfl rfl a7 (by kernel_rfl) HEP.out ?_) | (with_reducible refine Agg.wpList_eqlw 25 25 _ _ rfl rfl (hC ch) (hC z20) rfl rfl a9 (by kernel_rfl) HEH.out ?_))
      all_goals first
        | (refine (refIn_is (s := [122]) (c := 99) (b := false) (by decide) (by decide) (by omega) _).mono ?_
           rintro e w99 ⟨rfl, rfl⟩
           go_wp2_with (first | (with_reducible refine Agg.wpList_loadL HL.out.kind rfl _ rfl rfl ?_) | (with_reducible refine Agg.wpList_loadL HL.out.user rfl _ rfl rfl ?_) | (with_reducible refine Agg.wpList_loadL HL.out.who rfl _ rfl rfl ?_) | (with_reducible refine Agg.wpList_loadL HL.out.name rfl _ rfl rfl ?_) | (with_reducible refine Agg.wpList_loadL HL.out.bytes rfl _ rfl rfl ?_) | (with_reducible refine Agg.wpList_loadL HL.out.path rfl _ rfl rfl ?_) | (with_reducible refine Agg.wpList_loadL HL.out.cls rfl _ rfl rfl ?_) | (with_reducible refine Agg.wpList_loadL (RqG.pname2 HB.out hl) rfl _ rfl rfl ?_) | (with_reducible refine Agg.wpList_build0 27 rfl rfl (.agg (pC z20 [])) build_p0 ?_) | (with_reducible refine Agg.wpList_build0 25 rfl rfl (.agg (hC z20)) build_h0 ?_) | (with_reducible refine Agg.wpList_eqlw 27 27 _ _ rfl rfl (pC ph pn) (pC z20 []) rfl rfl a7 (by kernel_rfl) HEP.out ?_) | (with_reducible refine Agg.wpList_eqlw 25 25 _ _ rfl rfl (hC ch) (hC z20) rfl rfl a9 (by kernel_rfl) HEH.out ?_))
           all_goals (go_ret; exact ⟨ret_bool (by rw [HR.out]; simp [refL, hasN, *] <;> (intros; exfalso; omega)), HX.out⟩))
        | (go_ret; exact ⟨ret_bool (by rw [HR.out]; simp [refL, hasN, *] <;> (intros; exfalso; omega)), HX.out⟩)
  case true =>
    go_wp2_with (first | (with_reducible refine Agg.wpList_loadL HL.out.kind rfl _ rfl rfl ?_) | (with_reducible refine Agg.wpList_loadL HL.out.user rfl _ rfl rfl ?_) | (with_reducible refine Agg.wpList_loadL HL.out.who rfl _ rfl rfl ?_) | (with_reducible refine Agg.wpList_loadL HL.out.name rfl _ rfl rfl ?_) | (with_reducible refine Agg.wpList_loadL HL.out.bytes rfl _ rfl rfl ?_) | (with_reducible refine Agg.wpList_loadL HL.out.path rfl _ rfl rfl ?_) | (with_reducible refine Agg.wpList_loadL HL.out.cls rfl _ rfl rfl ?_) | (with_reducible refine Agg.wpList_loadL (RqG.pname2 HB.out hl) rfl _ rfl rfl ?_) | (with_reducible refine Agg.wpList_build0 27 rfl rfl (.agg (pC z20 [])) build_p0 ?_) | (with_reducible refine Agg.wpList_build0 25 rfl rfl (.agg (hC z20)) build_h0 ?_) | (with_reducible refine Agg.wpList_eqlw 27 27 _ _ rfl rfl (pC ph pn) (pC z20 []) rfl rfl a7 (by kernel_rfl) HEP.out ?_) | (with_reducible refine Agg.wpList_eqlw 25 25 _ _ rfl rfl (hC ch) (hC z20) rfl rfl a9 (by kernel_rfl) HEH.out ?_))
    refine (refIn_is (s := [122]) (c := 110) (b := false) (by decide) (by decide) (by omega) _).mono ?_
    rintro e w6 ⟨rfl, rfl⟩
    go_wp2_with (first | (with_reducible refine Agg.wpList_loadL HL.out.kind rfl _ rfl rfl ?_) | (with_reducible refine Agg.wpList_loadL HL.out.user rfl _ rfl rfl ?_) | (with_reducible refine Agg.wpList_loadL HL.out.who rfl _ rfl rfl ?_) | (with_reducible refine Agg.wpList_loadL HL.out.name rfl _ rfl rfl ?_) | (with_reducible refine Agg.wpList_loadL HL.out.bytes rfl _ rfl rfl ?_) | (with_reducible refine Agg.wpList_loadL HL.out.path rfl _ rfl rfl ?_) | (with_reducible refine Agg.wpList_loadL HL.out.cls rfl _ rfl rfl ?_) | (with_reducible refine Agg.wpList_loadL (RqG.pname2 HB.out hl) rfl _ rfl rfl ?_) | (with_reducible refine Agg.wpList_build0 27 rfl rfl (.agg (pC z20 [])) build_p0 ?_) | (with_reducible refine Agg.wpList_build0 25 rfl rfl (.agg (hC z20)) build_h0 ?_) | (with_reducible refine Agg.wpList_eqlw 27 27 _ _ rfl rfl (pC ph pn) (pC z20 []) rfl rfl a7 (by kernel_rfl) HEP.out ?_) | (with_reducible refine Agg.wpList_eqlw 25 25 _ _ rfl rfl (hC ch) (hC z20) rfl rfl a9 (by kernel_rfl) HEH.out ?_))
    refine (refIn_is (s := [122]) (c := 119) (b := false) (by decide) (by decide) (by omega) _).mono ?_
    rintro e w7 ⟨rfl, rfl⟩
    by_cases hl0 : bs.length = 0
    · have hl0I : ((bs.length : Int) == 0) = true := by rw [beq_iff_eq]; omega
      go_wp2_with (first | (with_reducible refine Agg.wpList_loadL HL.out.kind rfl _ rfl rfl ?_) | (with_reducible refine Agg.wpList_loadL HL.out.user rfl _ rfl rfl ?_) | (with_reducible refine Agg.wpList_loadL HL.out.who rfl _ rfl rfl ?_) | (with_reducible refine Agg.wpList_loadL HL.out.name rfl _ rfl rfl ?_) | (with_reducible refine Agg.wpList_loadL HL.out.bytes rfl _ rfl rfl ?_) | (with_reducible refine Agg.wpList_loadL HL.out.path rfl _ rfl rfl ?_) | (with_reducible refine Agg.wpList_loadL HL.out.cls rfl _ rfl rfl ?_) | (with_reducible refine Agg.wpList_loadL (RqG.pname2 HB.out hl) rfl _ rfl rfl ?_) | (with_reducible refine Agg.wpList_build0 27 rfl rfl (.agg (pC z20 [])) build_p0 ?_) | (with_reducible refine Agg.wpList_build0 25 rfl rfl (.agg (hC z20)) build_h0 ?_) | (with_reducible refine Agg.wpList_eqlw 27 27 _ _ rfl rfl (pC ph pn) (pC z20 []) rfl rfl a7 (by kernel_rfl) HEP.out ?_) | (with_reducible refine Agg.wpList_eqlw 25 25 _ _ rfl rfl (hC ch) (hC z20) rfl rfl a9 (by kernel_rfl) HEH.out ?_))
      all_goals first
        | (refine (refIn_is (s := [122]) (c := 99) (b := false) (by decide) (by decide) (by omega) _).mono ?_
           rintro e w99 ⟨rfl, rfl⟩
           go_wp2_with (first | (with_reducible refine Agg.wpList_loadL HL.out.kind rfl _ rfl rfl ?_) | (with_reducible refine Agg.wpList_loadL HL.out.user rfl _ rfl rfl ?_) | (with_reducible refine Agg.wpList_loadL HL.out.who rfl _ rfl rfl ?_) | (with_reducible refine Agg.wpList_loadL HL.out.name rfl _ rfl rfl ?_) | (with_reducible refine Agg.wpList_loadL HL.out.bytes rfl _ rfl rfl ?_) | (with_reducible refine Agg.wpList_loadL HL.out.path rfl _ rfl rfl ?_) | (with_reducible refine Agg.wpList_loadL HL.out.cls rfl _ rfl rfl ?_) | (with_reducible refine Agg.wpList_loadL (RqG.pname2 HB.out hl) rfl _ rfl rfl ?_) | (with_reducible refine Agg.wpList_build0 27 rfl rfl (.agg (pC z20 [])) build_p0 ?_) | (with_reducible refine Agg.wpList_build0 25 rfl rfl (.agg (hC z20)) build_h0 ?_) | (with_reducible refine Agg.wpList_eqlw 27 27 _ _ rfl rfl (pC ph pn) (pC z20 []) rfl rfl a7 (by kernel_rfl) HEP.out ?_) | (with_reducible refine Agg.wpList_eqlw 25 25 _ _ rfl rfl (hC ch) (hC z20) rfl rfl a9 (by kernel_rfl) HEH.out ?_))
           all_goals (go_ret; exact ⟨ret_bool (by rw [HR.out]; simp [refL, hasN, *] <;> (intros; exfalso; omega)), HX.out⟩))
        | (go_ret; exact ⟨ret_bool (by rw [HR.out]; simp [refL, hasN, *] <;> (intros; exfalso; omega)), HX.out⟩)
    · have hl0I : ((bs.length : Int) == 0) = false := by rw [beq_eq_false_iff_ne]; omega
      go_wp2_with (first | (with_reducible refine Agg.wpList_loadL HL.out.kind rfl _ rfl rfl ?_) | (with_reducible refine Agg.wpList_loadL HL.out.user rfl _ rfl rfl ?_) | (with_reducible refine Agg.wpList_loadL HL.out.who rfl _ rfl rfl ?_) | (with_reducible refine Agg.wpList_loadL HL.out.name rfl _ rfl rfl ?_) | (with_reducible refine Agg.wpList_loadL HL.out.bytes rfl _ rfl rfl ?_) | (with_reducible refine Agg.wpList_loadL HL.out.path rfl _ rfl rfl ?_) | (with_reducible refine Agg.wpList_loadL HL.out.cls rfl _ rfl rfl ?_) | (with_reducible refine Agg.wpList_loadL (RqG.pname2 HB.out hl) rfl _ rfl rfl ?_) | (with_reducible refine Agg.wpList_build0 27 rfl rfl (.agg (pC z20 [])) build_p0 ?_) | (with_reducible refine Agg.wpList_build0 25 rfl rfl (.agg (hC z20)) build_h0 ?_) | (with_reducible refine Agg.wpList_eqlw 27 27 _ _ rfl rfl (pC ph pn) (pC z20 []) rfl rfl a7 (by kernel_rfl) HEP.out ?_) | (with_reducible refine Agg.wpList_eqlw 25 25 _ _ rfl rfl (hC ch) (hC z20) rfl rfl a9 (by kernel_rfl) HEH.out ?_))
      refine (refIn_is (s := [122]) (c := 98) (b := false) (by decide) (by decide) (by omega) _).mono ?_
      rintro e w98 ⟨rfl, rfl⟩
      go_wp2_with (first | (with_reducible refine Agg.wpList_loadL HL.out.kind rfl _ rfl rfl ?_) | (with_reducible refine Agg.wpList_loadL HL.out.user rfl _ rfl rfl ?_) | (with_reducible refine Agg.wpList_loadL HL.out.who rfl _ rfl rfl ?_) | (with_reducible refine Agg.wpList_loadL HL.out.name rfl _ rfl rfl ?_) | (with_reducible refine Agg.wpList_loadL HL.out.bytes rfl _ rfl rfl ?_) | (with_reducible refine Agg.wpList_loadL HL.out.path rfl _ rfl rfl ?_) | (with_reducible refine Agg.wpList_loadL HL.out.cls rfl _ rfl rfl ?_) | (with_reducible refine Agg.wpList_loadL (RqG.pname2 HB.out hl) rfl _ rfl rfl ?_) | (with_reducible refine Agg.wpList_build0 27 rfl rfl (.agg (pC z20 [])) build_p0 ?_) | (with_reducible refine Agg.wpList_build0 25 rfl rfl (.agg (hC z20)) build_h0 ?_) | (with_reducible refine Agg.wpList_eqlw 27 27 _ _ rfl rfl (pC ph pn) (pC z20 []) rfl rfl a7 (by kernel_rfl) HEP.out ?_) | (with_reducible refine Agg.wpList_eqlw 25 25 _ _ rfl rfl (hC ch) (hC z20) rfl rfl a9 (by kernel_rfl) HEH.out ?_))
      all_goals first
        | (refine (refIn_is (s := [122]) (c := 99) (b := false) (by decide) (by decide) (by omega) _).mono ?_
           rintro e w99 ⟨rfl, rfl⟩
           go_wp2_with (first | (with_reducible refine Agg.wpList_loadL HL.out.kind rfl _ rfl rfl ?_) | (with_reducible refine Agg.wpList_loadL HL.out.user rfl _ rfl rfl ?_) | (with_reducible refine Agg.wpList_loadL HL.out.who rfl _ rfl rfl ?_) | (with_reducible refine Agg.wpList_loadL HL.out.name rfl _ rfl rfl ?_) | (with_reducible refine Agg.wpList_loadL HL.out.bytes rfl _ rfl rfl ?_) | (with_reducible refine Agg.wpList_loadL HL.out.path rfl _ rfl rfl ?_) | (with_reducible refine Agg.wpList_loadL HL.out.cls rfl _ rfl rfl ?_) | (with_reducible refine Agg.wpList_loadL (RqG.pname2 HB.out hl) rfl _ rfl rfl ?_) | (with_reducible refine Agg.wpList_build0 27 rfl rfl (.agg (pC z20 [])) build_p0 ?_) | (with_reducible refine Agg.wpList_build0 25 rfl rfl (.agg (hC z20)) build_h0 ?_) | (with_reducible refine Agg.wpList_eqlw 27 27 _ _ rfl rfl (pC ph pn) (pC z20 []) rfl rfl a7 (by kernel_rfl) HEP.out ?_) | (with_reducible refine Agg.wpList_eqlw 25 25 _ _ rfl rfl (hC ch) (hC z20) rfl rfl a9 (by kernel_rfl) HEH.out ?_))
           all_goals (go_ret; exact ⟨ret_bool (by rw [HR.out]; simp [refL, hasN, *] <;> (intros; exfalso; omega)), HX.out⟩))
        | (go_ret; exact ⟨ret_bool (by rw [HR.out]; simp [refL, hasN, *] <;> (intros; exfalso; omega)), HX.out⟩)
end Go.Proofs.YtpnolgliklmnmaaGreat
/-! spenceref28.Right of any request: what wire.Right says. -/
namespace Go.Proofs.YtpnolgliklmnmaaGreat
open Go.RowKit Pl Go.Agg
theorem refB_right (k u wh : Int) (nm : List UInt8) (n : Nat) (ph pn ch : List UInt8) : refB (partsN k) k u wh nm n ph pn ch = rightN k u wh nm n ph pn ch := by
  have e1 : (if hasN (partsN k) 4 then isName pn else if hasN (partsN k) 8 then ((ph == z20 && pn == []) || isName pn) else (ph == z20 && pn == [])) = (!(!hasN (partsN k) 12 && !(ph == z20 && pn == [])) && !(hasN (partsN k) 12 && !namedN ph pn (hasN (partsN k) 8))) := by
    unfold namedN
    generalize (ph == z20 && pn == []) = z
    generalize isName pn = a
    rcases parts_cases k with h | h | h | h | h | h | h | h | h <;> rw [h] <;> cases z <;> cases a <;> decide
  have e2 : (if hasN (partsN k) 2 then isName nm else (nm == [])) = (!(hasN (partsN k) 2 != isName nm) && !(!hasN (partsN k) 2 && (nm != []))) := by
    by_cases hn : nm = []
    · subst hn
      rw [isName_nil]
      cases hasN (partsN k) 2 <;> rfl
    · have h1 : (nm == []) = false := by simpa using hn
      have h2 : (nm != []) = true := by simpa using hn
      rw [h1, h2]
      cases hasN (partsN k) 2 <;> cases isName nm <;> rfl
  have e3 : (if hasN (partsN k) 1 then (decide (1 ≤ wh) && decide (wh ≤ 16)) else (wh == 0)) = (!(hasN (partsN k) 1 != (decide (1 ≤ wh) && decide (wh ≤ 16))) && !(!hasN (partsN k) 1 && (wh != 0))) := by
    by_cases hn : wh = 0
    · subst hn
      cases hasN (partsN k) 1 <;> rfl
    · have h1 : (wh == 0) = false := by simpa using hn
      have h2 : (wh != 0) = true := by simpa using hn
      rw [h1, h2]
      cases hasN (partsN k) 1 <;> cases (decide (1 ≤ wh) && decide (wh ≤ 16)) <;> rfl
  have e4 : (((n : Int) == 0) || (hasN (partsN k) 32 && decide ((n : Int) ≤ if partsN k = 32 then 2000 else 4096))) = decide (n ≤ mostN k) := by
    unfold mostN
    by_cases h2 : k = 2
    · subst h2
      rw [show partsN 2 = 32 from rfl, Bool.eq_iff_iff]
      simp only [if_true, show hasN 32 32 = true from rfl, Bool.true_and, Bool.or_eq_true, beq_iff_eq, decide_eq_true_eq]
      omega
    · have h3 : ¬ partsN k = 32 := fun h => h2 (kind_32 h)
      rw [if_neg h2, if_neg h3, Bool.eq_iff_iff]
      cases hasN (partsN k) 32 <;> simp <;> omega
  have e5 : (hasN (partsN k) 16 || (ch == z20)) = !(!hasN (partsN k) 16 && !(ch == z20)) := by
    cases hasN (partsN k) 16 <;> cases (ch == z20) <;> rfl
  unfold refB refL rightN rT
  rw [e1, e2, e3, e4, e5]
  simp only [List.all_cons, List.all_nil, Bool.not_not, Bool.and_true]
  ac_rfl
theorem refRight_any (k u wh : Int) (nm : List UInt8) (vb : Value) (bs ph pn ch : List UInt8) (hl : ph.length = 20) (hc : ch.length = 20) (hn : nm.length ≤ 1048576) (hpn : pn.length ≤ 1048576) (w : World) (hb : BytesAt w vb bs) :
    Calls Tryz.prog 14 #[.agg (rqG k u wh nm vb ph pn ch)] w fun e w' => e = .returned (.bool (rightN k u wh nm bs.length ph pn ch)) ∧ Below w.heap.size w w' := by
  rw [← refB_right]
  rcases parts_cases k with h | h | h | h | h | h | h | h | h <;> rw [h]
  · exact refRight_34 k u wh nm vb bs ph pn ch h hl hc hn hpn w hb
  · exact refRight_32 k u wh nm vb bs ph pn ch h hl hc hn hpn w hb
  · exact refRight_16 k u wh nm vb bs ph pn ch h hl hc hn hpn w hb
  · exact refRight_1 k u wh nm vb bs ph pn ch h hl hc hn hpn w hb
  · exact refRight_6 k u wh nm vb bs ph pn ch h hl hc hn hpn w hb
  · exact refRight_2 k u wh nm vb bs ph pn ch h hl hc hn hpn w hb
  · exact refRight_36 k u wh nm vb bs ph pn ch h hl hc hn hpn w hb
  · exact refRight_8 k u wh nm vb bs ph pn ch h hl hc hn hpn w hb
  · exact refRight_0 k u wh nm vb bs ph pn ch h hl hc hn hpn w hb
end Go.Proofs.YtpnolgliklmnmaaGreat
