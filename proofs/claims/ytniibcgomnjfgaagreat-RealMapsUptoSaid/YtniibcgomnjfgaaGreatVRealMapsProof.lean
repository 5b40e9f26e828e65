/- RealMaps, proved. -/
import Derived.Test.YtniibcgomnjfgaaGreatVBH
import Derived.Test.YtniibcgomnjfgaaGreatVBI
import Derived.Test.YtniibcgomnjfgaaGreatVBJ
import Derived.ProofKit
namespace Go.Proofs.YtniibcgomnjfgaaGreat
open Go.ChangeShapes Go.WideShapes Go.ChangeAt Go.RowKit Go.Agg
set_option maxRecDepth 100000 in
theorem realMaps_lifted (os : Os) (started : os.Started) (H : Type) (enc : TypeId × Value → H) (F : Stop.Interp) :
    ReturnsInHanded {} Tryz.checked os 3 .any ((Rows.OpenSpec.upto Rows.realMapsSpec).pre6 enc Tryz.prog Tryz.f3 Rows.realMapsUptoRow.domain false) (((Rows.OpenSpec.upto Rows.realMapsSpec).at F).post enc Tryz.prog Tryz.f3 false true false false) := by
  refine Agg.handed_cond_shaped (C := Tryz.checked) (s := Rows.OpenSpec.upto Rows.realMapsSpec) (k := Rows.uptoSmall) rfl own started (by kernel_rfl) Tryz.func3
    (OpenSpec.witness (enc := enc) (C := Tryz.checked) (s := Rows.OpenSpec.upto Rows.realMapsSpec) (k := Rows.uptoSmall) rfl false ⟨#[], #[.slice none 0 0, .agg (bC (zB, none, 0, 0)), .agg (hC z20), .slice none 0 0], []⟩ 8 (by kernel_rfl) (by kernel_rfl) (by kernel_rfl)
      (x := ([.nil, .agg [hashData z20, hashData z20, pathData z20 [], .lit (.int .i64 0), .nil], hashData z20, .nil], [], [])) (by kernel_rfl) rfl (by kernel_rfl)) ?_
  intro W base args ds gs before hval0 hW hk hsh
  have hval : ∀ (j : Nat) t v, Tryz.f3.params[j]? = some t → args[j]? = some v → Value.okWide Tryz.prog W .any base t v := hval0
  have hW' := hW
  obtain ⟨p, q, hA0, hV, rfl, hfz, hnd⟩ := hW
  have hA : DataW.TrodAll enc Tryz.prog W 0 (fun _ => true) true Tryz.f3.params.toList args.toList ds p := hA0
  rw [Tryz.params3] at hA hval
  obtain ⟨v0, vs0, d0, ds0, p0, q0, hargs, rfl, rfl, h0, r0⟩ := trodAll_cons hA
  obtain ⟨v1, vs1, d1, ds1, p1, q1, rfl, rfl, rfl, h1, r1⟩ := trodAll_cons r0
  obtain ⟨v2, vs2, d2, ds2, p2, q2, rfl, rfl, rfl, h2, r2⟩ := trodAll_cons r1
  obtain ⟨v3, vs3, d3, ds3, p3, q3, rfl, rfl, rfl, h3, r3⟩ := trodAll_cons r2
  obtain ⟨rfl, rfl, rfl⟩ := trodAll_nil r3
  obtain rfl : args = #[v0, v1, v2, v3] := by cases args; simp_all
  obtain ⟨rfl, rfl⟩ := trodVars_none hV
  obtain ⟨x0, hs0, hc0, hb0⟩ := open_builts (hval 0 22 v0 rfl rfl) h0
  obtain ⟨x1, rfl, hs1, hb1⟩ := open_bu (hval 1 29 v1 rfl rfl) h1
  obtain ⟨x2, rfl, hb2⟩ := open_hash20 (hval 2 24 v2 rfl rfl) h2
  obtain ⟨x3, hs3, hb3⟩ := open_paths (hval 3 30 v3 rfl rfl) h3
  clear hA0 hval0
  simp only [List.append_nil] at hW' hk
  have hsm : Rows.uptoBulk d0 + Rows.uptoBulk d1 + Rows.uptoBulk d2 + Rows.uptoBulk d3 ≤ 1048576 := by
    have hb := of_decide_eq_true hk
    simp only [Rows.uptoBulkAll] at hb
    omega
  refine (realMaps_any v0 v3 x0 x1 x2 x3 (by omega) (bu_small hb0 (by omega)) (bu_one hb1 (by omega)) (by omega) (fun q hq => by have := mem_sum _ _ (List.mem_map.2 ⟨q, hq, rfl⟩ : q.1.2.length ∈ x3.map fun p => p.1.2.length); omega) W hs0 hs1 hs3).mono fun e W' ⟨he, hg⟩ => ?_
  subst he
  exact ⟨_, rfl, Agg.post_law (bt := 4) hW' rfl laidOut (of_decide_eq_true (by kernel_rfl)) rfl rfl rfl rfl Tryz.underlying4 hg⟩
theorem realMaps_proved : Rows.RealMapsUptoSaid :=
  OpenClaim.holds_of_cond 3 Tryz.f3 rfl rfl rfl rfl rfl rfl rfl ⟨rfl, rfl, rfl, rfl, rfl⟩ rfl rfl rfl rfl rfl (by kernel_rfl) Tryz.func3 (by kernel_rfl)
    (of_decide_eq_true (by kernel_rfl)) (by unfold Func.isWrapper; first | (rw [if_pos (by decide +kernel)]; kernel_rfl) | (rw [if_neg (by decide +kernel)]; exact ⟨rfl, rfl⟩))
    (fun os started H enc _ F => realMaps_lifted os started H enc F)
end Go.Proofs.YtniibcgomnjfgaaGreat
