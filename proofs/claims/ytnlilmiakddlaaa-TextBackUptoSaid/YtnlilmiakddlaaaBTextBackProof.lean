/- TextBack, proved. -/
import Derived.Test.YtnlilmiakddlaaaBAY
import Derived.Test.YtnlilmiakddlaaaBAZ
import Derived.ProofKit
namespace Go.Proofs.Ytnlilmiakddlaaa
open Go.ChangeShapes Go.WideShapes Go.ChangeAt Go.RowKit Go.Agg
set_option maxRecDepth 100000 in
theorem textBack_lifted (os : Os) (started : os.Started) (H : Type) (enc : TypeId × Value → H) (F : Stop.Interp) :
    ReturnsInHanded {} Try.checked os 3 .any ((Rows.OpenSpec.upto Rows.textBackSpec).pre6 enc Try.prog Try.f3 Rows.textBackUptoRow.domain false) (((Rows.OpenSpec.upto Rows.textBackSpec).at F).post enc Try.prog Try.f3 false true false false) := by
  refine Agg.handed_cond_shaped (C := Try.checked) (s := Rows.OpenSpec.upto Rows.textBackSpec) (k := Rows.uptoSmall) rfl own started (by kernel_rfl) Try.func3
    (OpenSpec.witness (enc := enc) (C := Try.checked) (s := Rows.OpenSpec.upto Rows.textBackSpec) (k := Rows.uptoSmall) rfl false ⟨#[], #[.agg #[.string .empty, .slice none 0 0, .slice none 0 0], .slice none 0 0, .slice none 0 0], []⟩ 8 (by kernel_rfl) (by kernel_rfl) (by kernel_rfl)
      (x := ([.agg [.lit (.string []), .nil, .nil], .nil, .nil], [], [])) (by kernel_rfl) rfl (by kernel_rfl)) ?_
  intro W base args ds gs before hval0 hW hk hsh
  have hval : ∀ (j : Nat) t v, Try.f3.params[j]? = some t → args[j]? = some v → Value.okWide Try.prog W .any base t v := hval0
  have hW' := hW
  obtain ⟨p, q, hA0, hV, rfl, hfz, hnd⟩ := hW
  have hA : DataW.TrodAll enc Try.prog W 0 (fun _ => true) true Try.f3.params.toList args.toList ds p := hA0
  rw [Try.params3] at hA hval
  obtain ⟨v0, vs0, d0, ds0, p0, q0, hargs, rfl, rfl, h0, r0⟩ := trodAll_cons hA
  obtain ⟨v1, vs1, d1, ds1, p1, q1, rfl, rfl, rfl, h1, r1⟩ := trodAll_cons r0
  obtain ⟨v2, vs2, d2, ds2, p2, q2, rfl, rfl, rfl, h2, r2⟩ := trodAll_cons r1
  obtain ⟨rfl, rfl, rfl⟩ := trodAll_nil r2
  obtain rfl : args = #[v0, v1, v2] := by cases args; simp_all
  obtain ⟨rfl, rfl⟩ := trodVars_none hV
  obtain ⟨x0, hs0, hb0⟩ := open_drv (hval 0 25 v0 rfl rfl) h0
  obtain ⟨x1, hs1, hb1⟩ := open_bytesB (hval 1 23 v1 rfl rfl) h1
  obtain ⟨x2, hs2, hb2⟩ := open_bytesB (hval 2 23 v2 rfl rfl) h2
  clear hA0 hval0
  simp only [List.append_nil] at hW' hk
  have hsm : Rows.uptoBulk d0 + Rows.uptoBulk d1 + Rows.uptoBulk d2 ≤ 1048576 := by
    have hb := of_decide_eq_true hk
    simp only [Rows.uptoBulkAll] at hb
    omega
  obtain ⟨m, hm⟩ := maxLenCell hsh
  refine (textBack_any v0 v1 v2 x0 x1 x2 (by omega) (by omega) (by omega) (by omega) (by omega) (by omega) m W hm hs0 hs1 hs2).mono fun e W' ⟨he, hg⟩ => ?_
  subst he
  exact ⟨_, rfl, Agg.post_law (bt := 4) hW' rfl laidOut (of_decide_eq_true (by kernel_rfl)) rfl rfl rfl rfl Try.underlying4 hg⟩
theorem textBack_proved : Rows.TextBackUptoSaid :=
  OpenClaim.holds_of_cond 3 Try.f3 rfl rfl rfl rfl rfl rfl rfl ⟨rfl, rfl, rfl, rfl, rfl⟩ rfl rfl rfl rfl rfl (by kernel_rfl) Try.func3 (by kernel_rfl)
    (of_decide_eq_true (by kernel_rfl)) (by unfold Func.isWrapper; first | (rw [if_pos (by decide +kernel)]; kernel_rfl) | (rw [if_neg (by decide +kernel)]; exact ⟨rfl, rfl⟩))
    (fun os started H enc _ F => textBack_lifted os started H enc F)
end Go.Proofs.Ytnlilmiakddlaaa
