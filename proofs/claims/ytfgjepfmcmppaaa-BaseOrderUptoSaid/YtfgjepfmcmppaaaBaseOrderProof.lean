/- BaseOrder, proved. -/
import Derived.Test.YtfgjepfmcmppaaaBaseOrder
import Derived.Test.YtfgjepfmcmppaaaLaw
import Derived.ProofKit
namespace Go.Proofs.Ytfgjepfmcmppaaa
open Go.ChangeShapes Go.WideShapes Go.ChangeAt Go.RowKit Go.Agg
set_option maxRecDepth 100000 in
theorem baseOrder_lifted (os : Os) (started : os.Started) (H : Type) (enc : TypeId × Value → H) (F : Stop.Interp) :
    ReturnsInHanded {} Try.checked os 10 .any ((Rows.OpenSpec.upto Rows.baseOrderSpec).pre6 enc Try.prog Try.f10 Rows.baseOrderUptoRow.domain false) (((Rows.OpenSpec.upto Rows.baseOrderSpec).at F).post enc Try.prog Try.f10 false true false false) := by
  refine Agg.handed_cond_shaped (C := Try.checked) (s := Rows.OpenSpec.upto Rows.baseOrderSpec) (k := Rows.uptoSmall) rfl own started (by kernel_rfl) Try.func10
    (OpenSpec.witness (enc := enc) (C := Try.checked) (s := Rows.OpenSpec.upto Rows.baseOrderSpec) (k := Rows.uptoSmall) rfl false ⟨#[], #[.agg (pC z20 []), .agg (pC z20 []), .agg (pC z20 []), .slice none 0 0], []⟩ 8 (by kernel_rfl) (by kernel_rfl) (by kernel_rfl)
      (x := ([pathData z20 [], pathData z20 [], pathData z20 [], .nil], [], [])) (by kernel_rfl) rfl (by kernel_rfl)) ?_
  intro W base args ds gs before hval0 hW hk hsh
  have hval : ∀ (j : Nat) t v, Try.f10.params[j]? = some t → args[j]? = some v → Value.okWide Try.prog W .any base t v := hval0
  have hW' := hW
  obtain ⟨p, q, hA0, hV, rfl, hfz, hnd⟩ := hW
  have hA : DataW.TrodAll enc Try.prog W 0 (fun _ => true) true Try.f10.params.toList args.toList ds p := hA0
  rw [Try.params10] at hA hval
  obtain ⟨v0, vs0, d0, ds0, p0, q0, hargs, rfl, rfl, h0, r0⟩ := trodAll_cons hA
  obtain ⟨v1, vs1, d1, ds1, p1, q1, rfl, rfl, rfl, h1, r1⟩ := trodAll_cons r0
  obtain ⟨v2, vs2, d2, ds2, p2, q2, rfl, rfl, rfl, h2, r2⟩ := trodAll_cons r1
  obtain ⟨v3, vs3, d3, ds3, p3, q3, rfl, rfl, rfl, h3, r3⟩ := trodAll_cons r2
  obtain ⟨rfl, rfl, rfl⟩ := trodAll_nil r3
  obtain rfl : args = #[v0, v1, v2, v3] := by cases args; simp_all
  obtain ⟨rfl, rfl⟩ := trodVars_none hV
  obtain ⟨x0, rfl, hb0⟩ := open_path20 (hval 0 40 v0 rfl rfl) h0
  obtain ⟨x1, rfl, hb1⟩ := open_path20 (hval 1 40 v1 rfl rfl) h1
  obtain ⟨x2, rfl, hb2⟩ := open_path20 (hval 2 40 v2 rfl rfl) h2
  obtain ⟨x3, hs3, hb3⟩ := open_paths (hval 3 54 v3 rfl rfl) h3
  clear hA0 hval0
  simp only [List.append_nil] at hW' hk
  have hsm : Rows.uptoBulk d0 + Rows.uptoBulk d1 + Rows.uptoBulk d2 + Rows.uptoBulk d3 ≤ 1048576 := by
    have hb := of_decide_eq_true hk
    simp only [Rows.uptoBulkAll] at hb
    omega
  refine (border_any x0 x1 x2 v3 x3 (by omega) (by omega) (by omega) (by omega) (by unfold names; omega) W hs3).mono fun e W' ⟨he, hg⟩ => ?_
  subst he
  exact ⟨_, rfl, Agg.post_law (bt := 4) hW' rfl laidOut (of_decide_eq_true (by kernel_rfl)) rfl rfl rfl rfl Try.underlying4 hg⟩
theorem baseOrder_proved : Rows.BaseOrderUptoSaid :=
  OpenClaim.holds_of_cond 10 Try.f10 rfl rfl rfl rfl rfl rfl rfl ⟨rfl, rfl, rfl, rfl, rfl⟩ rfl rfl rfl rfl rfl (by kernel_rfl) Try.func10 (by kernel_rfl)
    (of_decide_eq_true (by kernel_rfl)) (by unfold Func.isWrapper; first | (rw [if_pos (by decide +kernel)]; kernel_rfl) | (rw [if_neg (by decide +kernel)]; exact ⟨rfl, rfl⟩))
    (fun os started H enc _ F => baseOrder_lifted os started H enc F)
end Go.Proofs.Ytfgjepfmcmppaaa
