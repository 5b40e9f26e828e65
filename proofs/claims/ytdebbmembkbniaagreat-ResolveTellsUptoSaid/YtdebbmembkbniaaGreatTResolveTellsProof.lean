/- ResolveTells, proved. -/
import Derived.Test.YtdebbmembkbniaaGreatTBT
import Derived.Test.YtdebbmembkbniaaGreatTBS
import Derived.ProofKit
namespace Go.Proofs.YtdebbmembkbniaaGreat
open Go.ChangeShapes Go.WideShapes Go.ChangeAt Go.RowKit Go.Agg
set_option maxRecDepth 100000 in
theorem resolveTells_lifted (os : Os) (started : os.Started) (H : Type) (enc : TypeId × Value → H) (F : Stop.Interp) :
  ReturnsInHanded {} Tryz.checked os 3 .any ((Rows.OpenSpec.upto Rows.resolveTellsSpec).pre6 enc Tryz.prog Tryz.f3 Rows.resolveTellsUptoRow.domain false) (((Rows.OpenSpec.upto Rows.resolveTellsSpec).at F).post enc Tryz.prog Tryz.f3 false true false false) := by
 refine Agg.handed_cond_shaped (C := Tryz.checked) (s := Rows.OpenSpec.upto Rows.resolveTellsSpec) (k := Rows.uptoSmall) rfl own started (by kernel_rfl) Tryz.func3
  (OpenSpec.witness (enc := enc) (C := Tryz.checked) (s := Rows.OpenSpec.upto Rows.resolveTellsSpec) (k := Rows.uptoSmall) rfl false ⟨#[], #[.agg #[.string .empty, .slice none 0 0, .slice none 0 0], .slice none 0 0], []⟩ 8 (by kernel_rfl) (by kernel_rfl) (by kernel_rfl)
   (x := ([.agg [.lit (.string []), .nil, .nil], .nil], [], [])) (by kernel_rfl) rfl (by kernel_rfl)) ?_
 intro W base args ds gs before hval0 hW hk hsh
 have hval : ∀ (j : Nat) t v, Tryz.f3.params[j]? = some t → args[j]? = some v → Value.okWide Tryz.prog W .any base t v := hval0
 have hW' := hW
 obtain ⟨p, q, hA0, hV, rfl, hfz, hnd⟩ := hW
 have hA : DataW.TrodAll enc Tryz.prog W 0 (fun _ => true) true Tryz.f3.params.toList args.toList ds p := hA0
 rw [Tryz.params3] at hA hval
 obtain ⟨v0, vs0, d0, ds0, p0, q0, hargs, rfl, rfl, h0, r0⟩ := trodAll_cons hA
 obtain ⟨v1, vs1, d1, ds1, p1, q1, rfl, rfl, rfl, h1, r1⟩ := trodAll_cons r0
 obtain ⟨rfl, rfl, rfl⟩ := trodAll_nil r1
 obtain rfl : args = #[v0, v1] := by cases args; simp_all
 obtain ⟨rfl, rfl⟩ := trodVars_none hV
 obtain ⟨x0, hs0, hb0⟩ := open_rv (hval 0 25 v0 rfl rfl) h0
 obtain ⟨x1, hs1, hb1⟩ := open_bytesB (hval 1 23 v1 rfl rfl) h1
 clear hA0 hval0
 simp only [List.append_nil] at hW' hk
 have hsm : Rows.uptoBulk d0 + Rows.uptoBulk d1 ≤ 1048576 := by
  have hb := of_decide_eq_true hk
  simp only [Rows.uptoBulkAll] at hb
  omega
 refine (resolveTells_sum v0 v1 x0 x1 (by omega) (by omega) W hs0 hs1).mono fun e W' ⟨he, hg⟩ => ?_
 subst he
 exact ⟨_, rfl, Agg.post_law (bt := 4) hW' rfl laidOut (of_decide_eq_true (by kernel_rfl)) rfl rfl rfl rfl Tryz.underlying4 hg⟩
theorem resolveTells_proved : Rows.ResolveTellsUptoSaid :=
 OpenClaim.holds_of_cond 3 Tryz.f3 rfl rfl rfl rfl rfl rfl rfl ⟨rfl, rfl, rfl, rfl, rfl⟩ rfl rfl rfl rfl rfl (by kernel_rfl) Tryz.func3 (by kernel_rfl)
  (of_decide_eq_true (by kernel_rfl)) (by unfold Func.isWrapper; first | (rw [if_pos (by decide +kernel)]; kernel_rfl) | (rw [if_neg (by decide +kernel)]; exact ⟨rfl, rfl⟩))
  (fun os started H enc _ F => resolveTells_lifted os started H enc F)
end Go.Proofs.YtdebbmembkbniaaGreat
