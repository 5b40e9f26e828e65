/- BaseBack, proved. -/
import Derived.Test.YtfgjepfmcmppaaaBack
import Derived.Test.YtfgjepfmcmppaaaData
import Derived.Test.YtfgjepfmcmppaaaRows
import Derived.ProofKit
namespace Go.Proofs.Ytfgjepfmcmppaaa
open Go.ChangeShapes Go.WideShapes Go.ChangeAt Go.RowKit Go.Agg
set_option maxRecDepth 100000 in
theorem baseBack_lifted (os : Os) (started : os.Started) (H : Type) (enc : TypeId × Value → H) (F : Stop.Interp) :
    ReturnsInHanded {} Try.checked os 7 .any ((Rows.OpenSpec.upto Rows.baseBackSpec).pre6 enc Try.prog Try.f7 Rows.baseBackUptoRow.domain false) (((Rows.OpenSpec.upto Rows.baseBackSpec).at F).post enc Try.prog Try.f7 false true false false) := by
  refine Agg.handed_cond_shaped (C := Try.checked) (s := Rows.OpenSpec.upto Rows.baseBackSpec) (k := Rows.uptoSmall) rfl own started (by kernel_rfl) Try.func7
    (OpenSpec.witness (enc := enc) (C := Try.checked) (s := Rows.OpenSpec.upto Rows.baseBackSpec) (k := Rows.uptoSmall) rfl false ⟨#[], #[.agg (pC z20 []), .agg (pC z20 []), .string .empty], []⟩ 8 (by kernel_rfl) (by kernel_rfl) (by kernel_rfl)
      (x := ([pathData z20 [], pathData z20 [], .lit (.string [])], [], [])) (by kernel_rfl) rfl (by kernel_rfl)) ?_
  intro W base args ds gs before hval0 hW hk hsh
  have hval : ∀ (j : Nat) t v, Try.f7.params[j]? = some t → args[j]? = some v → Value.okWide Try.prog W .any base t v := hval0
  have hW' := hW
  obtain ⟨p, q, hA0, hV, rfl, hfz, hnd⟩ := hW
  have hA : DataW.TrodAll enc Try.prog W 0 (fun _ => true) true Try.f7.params.toList args.toList ds p := hA0
  rw [Try.params7] at hA hval
  obtain ⟨v0, vs0, d0, ds0, p0, q0, hargs, rfl, rfl, h0, r0⟩ := trodAll_cons hA
  obtain ⟨v1, vs1, d1, ds1, p1, q1, rfl, rfl, rfl, h1, r1⟩ := trodAll_cons r0
  obtain ⟨v2, vs2, d2, ds2, p2, q2, rfl, rfl, rfl, h2, r2⟩ := trodAll_cons r1
  obtain ⟨rfl, rfl, rfl⟩ := trodAll_nil r2
  obtain rfl : args = #[v0, v1, v2] := by cases args; simp_all
  obtain ⟨rfl, rfl⟩ := trodVars_none hV
  obtain ⟨g0, n0, rfl, rfl, rfl, hl0, hn0⟩ := open_path (hval 0 40 v0 rfl rfl) h0
  obtain ⟨g1, n1, rfl, rfl, rfl, hl1, hn1⟩ := open_path (hval 1 40 v1 rfl rfl) h1
  obtain ⟨s2, rfl, rfl, rfl, hs2⟩ := open_text (hval 2 9 v2 rfl rfl) h2
  clear hA0 hval0
  simp only [List.append_nil] at hW' hk
  have hsm : n0.length ≤ 1048576 ∧ n1.length ≤ 1048576 ∧ s2.length ≤ 1048576 := by
    have hb := of_decide_eq_true hk
    simp only [Rows.uptoBulkAll, Rows.uptoBulk, pathData, hashData] at hb
    omega
  obtain ⟨m, hm⟩ := maxLenCell hsh
  refine (back_any g0 n0 g1 n1 s2 hl0 hl1 hsm.1 hsm.2.1 hsm.2.2 m W hm).mono fun e W' ⟨he, hg⟩ => ?_
  subst he
  exact ⟨_, rfl, Agg.post_below (pa := []) (pv := []) hW' (fun _ _ _ => trodAll_mk1 (shut_bool Try.underlying4 _)) (fun _ _ => (trodAll_cons_mk (shut_path g0 n0 hl0 hn0) (trodAll_cons_mk (shut_path g1 n1 hl1 hn1) (trodAll_cons_mk (shut_text s2 hs2) trodAll_mk0)))) (fun _ _ => rfl) rfl hg (ok_one (by kernel_rfl) rfl (okWide_bool_mk Try.underlying4 _))⟩
theorem baseBack_proved : Rows.BaseBackUptoSaid :=
  OpenClaim.holds_of_cond 7 Try.f7 rfl rfl rfl rfl rfl rfl rfl ⟨rfl, rfl, rfl, rfl, rfl⟩ rfl rfl rfl rfl rfl (by kernel_rfl) Try.func7 (by kernel_rfl)
    (of_decide_eq_true (by kernel_rfl)) (by unfold Func.isWrapper; first | (rw [if_pos (by decide +kernel)]; kernel_rfl) | (rw [if_neg (by decide +kernel)]; exact ⟨rfl, rfl⟩))
    (fun os started H enc _ F => baseBack_lifted os started H enc F)
end Go.Proofs.Ytfgjepfmcmppaaa
