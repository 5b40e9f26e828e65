/- wire.named, shown. -/
import Derived.Test.YtpnolgliklmnmaaReq
import Derived.Test.YtpnolgliklmnmaaEqual
import Derived.Test.YtpnolgliklmnmaaAgg3
namespace Go.Proofs.Ytpnolgliklmnmaa
open Go.RowKit Pl Go.Agg
def namedN (h n : List UInt8) (nn : Bool) : Bool := isName n || (nn && (h == z20 && n == []))
theorem build_p0 (w : World) : (Instr.build 44 #[]).run Try.prog w = .ok (.agg (pC z20 [])) w := by kernel_rfl
structure PL (w : World) (g : Nat) (h n : List UInt8) : Prop where
  all : LoadsL Try.prog w 44 (some ⟨g, 0, none⟩) (.agg (pC h n))
  name : LoadsL Try.prog w 9 (some ⟨g, 20, none⟩) (.string ⟨n.toArray⟩)
theorem PL.of_blk {w : World} {g : Nat} {h n : List UInt8} (hb : Blk w g 44 (pC h n)) (hl : h.length = 20) : PL w g h n where
  all := hb.loads pC_under rfl (pC_info h n hl)
  name := hb.one 20 (pC_name h n hl) Try.underlying9 rfl
theorem PL.below {w w' : World} {g : Nat} {h n : List UInt8} (k : PL w g h n) (hb : Below w.heap.size w w') : PL w' g h n := ⟨k.all.below hb, k.name.below hb⟩
set_option maxRecDepth 100000 in
set_option maxHeartbeats 1000000 in
theorem named_any (h n : List UInt8) (nn : Bool) (hl : h.length = 20) (w : World) : Calls Try.prog 52 #[.agg (pC h n), .bool nn] w fun e w' => e = .returned (.bool (namedN h n nn)) ∧ Below w.heap.size w w' := by
  have HL := Lib.hid hl
  have hq : ∀ W, (binOp .eql 44 (.agg (pC h n)) (.agg (pC z20 []))).run Try.prog W = .ok (.bool (h == z20 && n == [])) W := fun W => eql_path h n z20 [] HL.out rfl W
  unfold namedN
  generalize (h == z20 && n == []) = z at *
  have hnm := name_any n
  generalize isName n = nb at *
  have HNM := Lib.hid hnm
  have HQ := Lib.hid hq
  clear hl hq hnm
  go_enter Try.func52, Try.ntmps52
  go_wp2_with (first | (with_reducible refine Agg.wpList_box rfl 44 _ rfl (pC h n) rfl ?_; intro g w1 hb hx1 hg; have HP := Lib.hid (PL.of_blk hb HL.out); have HX1 := Lib.hid hx1; clear hb hx1 hg) | (with_reducible refine Agg.wpList_loadL HP.out.name rfl _ rfl rfl ?_))
  refine (HNM.out _).mono ?_
  rintro e w2 ⟨rfl, hx2⟩
  have HW2 := Lib.hid (Agg.belowThen HX1.out (Nat.le_refl _) hx2)
  have HP2 := Lib.hid (HP.out.below hx2)
  clear hx2
  cases nb with
  | true =>
    go_wp2_with fail
    go_ret
    exact ⟨rfl, HW2.out⟩
  | false =>
    cases nn with
    | false =>
      go_wp2_with fail
      go_ret
      exact ⟨rfl, HW2.out⟩
    | true =>
      go_wp2_with (first | (with_reducible refine Agg.wpList_loadL HP2.out.all rfl _ rfl rfl ?_) | (with_reducible refine Agg.wpList_build0 44 rfl rfl (.agg (pC z20 [])) build_p0 ?_) | (with_reducible refine Agg.wpList_eqlw 44 44 _ _ rfl rfl (pC h n) (pC z20 []) rfl rfl z (by kernel_rfl) HQ.out ?_))
      go_ret
      exact ⟨by simp, HW2.out⟩
set_option maxRecDepth 100000 in
set_option maxHeartbeats 1000000 in
theorem shown_any (h n : List UInt8) (hl : h.length = 20) (w : World) : Calls Try.prog 48 #[.agg (pC h n)] w fun e w' => ∃ v w1, e = .returned v ∧ Below w.heap.size w w1 ∧ NewBytes w1 w' v (pathS h n) ∧ Below w.heap.size w w' := by
  go_enter Try.func48, Try.ntmps48
  go_wp2_with (first | (with_reducible refine Agg.wpList_box rfl 44 _ rfl (pC h n) rfl ?_; intro g w0 hb hx1 hg; have HP := Lib.hid (PL.of_blk hb hl); have HX1 := Lib.hid hx1; clear hb hx1 hg) | (with_reducible refine Agg.wpList_loadL HP.out.all rfl _ rfl rfl ?_))
  refine (path_any h n hl _).mono ?_
  rintro e w1 ⟨rfl, hx1⟩
  have hx1 := Agg.belowThen HX1.out (Nat.le_refl _) hx1
  go_wp2_with (first | (with_reducible refine wpList_toBytes (pathS h n) _ rfl (by kernel_rfl) rfl ?_; intro v2 w2 hn2 hx2; have HN2 := Lib.hid hn2; have HX2 := Lib.hid hx2; clear hn2 hx2))
  go_ret
  exact ⟨v2, w1, rfl, hx1, HN2.out, Agg.belowThen hx1 (Nat.le_refl _) HX2.out⟩
end Go.Proofs.Ytpnolgliklmnmaa
