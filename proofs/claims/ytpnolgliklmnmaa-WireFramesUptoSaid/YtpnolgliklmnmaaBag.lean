/- One cell of a block written; (*bag).putBytes. -/
import Derived.Test.YtpnolgliklmnmaaApart
import Derived.Test.YtpnolgliklmnmaaPut1
namespace Go.Proofs.Ytpnolgliklmnmaa
open Go.RowKit Pl Go.Agg
theorem bag_put {w w1 : World} {g : Nat} {v0 v1 : Value} {l : List SV} (hg : Blk w g 102 (bagC v0)) (ho : Own EBB (g + 1) w1 v1 l) (hp : Pushed EBB (g + 1) w w1 v0) :
    ∃ w2, (Instr.storeAt 22 (.pointer (some ⟨g, 5, none⟩)) v1).run Try.prog w1 = .ok () w2 ∧ Blk w2 g 102 (bagC v1) ∧ Own EBB (g + 1) w2 v1 l ∧ Below g w w2 := by
  have h1 : Blk w1 g 102 (bagC v0) := hp.blk g _ _ _ (by decide) hg
  obtain ⟨p, c, rfl⟩ := ho.slice.form
  refine ⟨_, h1.run_put 5 (by simp [bagC]) _ rfl rfl (by kernel_rfl), h1.set 5 _, ho.keep fun k cur t fr hk hb => ?_, ?_⟩
  · rw [Below.heap_setCell _ _ _ _ (by show k ≠ g; omega)]; exact hb
  · have hb := hp.below g (by omega) (Nat.le_of_lt hg.lt)
    exact hb.setCell (Nat.le_refl _) _
set_option maxRecDepth 100000 in
set_option maxHeartbeats 1000000 in
theorem putBytes_any (g : Nat) (v0 : Value) (vs : List SV) (x : SV) (w : World) (hg : Blk w g 102 (bagC v0)) (ho : Own EBB (g + 1) w v0 vs) (hn : vs.length ≤ 4194304) :
    Calls Try.prog 43 #[.pointer (some ⟨g, 0, none⟩), x.1] w fun e w' => (∃ r, e = .returned r) ∧ ∃ v', Blk w' g 102 (bagC v') ∧ Own EBB (g + 1) w' v' (vs ++ [x]) ∧ Below g w w' := by
  have hl : LoadsL Try.prog w 22 (some ⟨g, 5, none⟩) v0 := hg.one (P := Try.prog) 5 rfl (by kernel_rfl : Try.prog.underlying 22 = some (.slice 23)) rfl
  have HL := Lib.hid hl
  have HG := Lib.hid hg
  have HO := Lib.hid ho
  have hlt := hg.lt
  have h63 : vs.length + 1 ≤ 1099511627776 / 8 := by omega
  have hbase : g + 1 ≤ w.heap.size := hlt
  clear hl hg ho
  go_enter Try.func43, Try.ntmps43
  go_wp2_with (first | (with_reducible refine Agg.wpList_loadL HL.out rfl _ rfl rfl ?_) | (refine Agg.wpList_push (E := EBB) (base := g + 1) rfl rfl 10 rfl _ rfl _ rfl x rfl (fun _ => rfl) (by simp) HO.out h63 (by decide) hbase ?_; intro u1 v1 w1 ho1 hp1; obtain ⟨w2, hrun, hfin⟩ := bag_put HG.out ho1 hp1; have HFIN := Lib.hid hfin; clear ho1 hp1 hfin) | (refine Agg.wpList_store rfl rfl 22 _ _ rfl (.pointer (some ⟨g, 5, none⟩)) _ rfl rfl hrun ?_))
  refine bodyPost_end (results_none rfl _ _ _) rfl ?_
  exact ⟨⟨_, rfl⟩, _, HFIN.out.1, HFIN.out.2.1, HFIN.out.2.2⟩
end Go.Proofs.Ytpnolgliklmnmaa
