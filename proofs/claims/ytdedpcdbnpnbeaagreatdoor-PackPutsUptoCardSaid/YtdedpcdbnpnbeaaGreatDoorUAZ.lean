/- Rows of slices and what they hold, as lists. (Several texts in one.) -/
import Derived.Test.YtdedpcdbnpnbeaaGreatDoorUAW
import Derived.Test.YtdedpcdbnpnbeaaGreatDoorUAY
import Derived.Test.YtdedpcdbnpnbeaaGreatDoorUAE
import Derived.Test.YtdedpcdbnpnbeaaGreatDoorUAA
import Derived.Test.YtdedpcdbnpnbeaaGreatDoorUAH
/-! (*spencekit.bag).apart of rows of bytes alone. -/
namespace Go.Proofs.YtdedpcdbnpnbeaaGreatDoor
open Go.RowKit Pl Go.Agg
def bagC (v0 : Value) : Array Value := #[.slice none 0 0, .slice none 0 0, .slice none 0 0, .slice none 0 0, .slice none 0 0, v0, .slice none 0 0, .slice none 0 0, .slice none 0 0, .slice none 0 0, .slice none 0 0, .slice none 0 0, .slice none 0 0, .slice none 0 0, .slice none 0 0, .slice none 0 0, .slice none 0 0, .slice none 0 0, .slice none 0 0, .slice none 0 0, .slice none 0 0]
/-- what apart may do -/
def ApC (w : World) (vs : List SV) (f : Nat → List UInt8) (w' : World) : Prop := Only (SS vs) w w' ∧ ∃ f', RoomsOf EB w' vs f' ∧ ∀ j, (f' j).length = (f j).length
theorem ApC.below {w : World} {vs : List SV} {f : Nat → List UInt8} (a b : World) (h : ApC w vs f a) (hb : Below a.heap.size a b) : ApC w vs f b := by
  obtain ⟨h1, f', h2, h3⟩ := h
  exact ⟨h1.trans (Only.of_below (S := fun _ => False) hb) (fun _ _ h => h.elim), f', h2.below hb, h3⟩
set_option maxRecDepth 100000 in
set_option maxHeartbeats 2000000 in
theorem apart_any (g : Nat) (v0 : Value) (vs : List SV) (f : Nat → List UInt8) (w : World) (hg : Blk w g 69 (bagC v0)) (hgS : ¬ SS vs g) (he : BBAt w v0 vs) (hr : RoomsOf EB w vs f) (hd : Dist vs) (hsep : ∀ b, v0.ownBlock = some b → ¬ SS vs b) (hn : vs.length ≤ 4194304) (hf : ∀ j, (f j).length ≤ 8388608) :
    Calls Tryz.prog 24 #[.pointer (some ⟨g, 0, none⟩)] w fun e w' => e = .returned (.bool true) ∧ ApC w vs f w' := by
  have hld : ∀ (k : Nat) (v : Value) (ty : TypeId) (d : TypeDesc), (bagC v0)[k]? = some v → Tryz.prog.underlying ty = some d → (match d with | .struct _ | .array _ _ => true | _ => false) = false →
      ∀ w', ApC w vs f w' → LoadsL Tryz.prog w' ty (some ⟨g, k, none⟩) v := by
    intro k v ty d hk hu hd w' hx
    have hb : Blk w' g 69 (bagC v0) := (hx.1.block g hg.lt hgS).trans hg
    exact hb.one (P := Tryz.prog) k hk hu (by cases d <;> first | rfl | cases hd)
  have HLD := Lib.hid hld
  clear hld
  have HCC : Hid (∀ a b, ApC w vs f a → Below a.heap.size a b → ApC w vs f b) := Lib.hid ApC.below
  have HCB : Hid (∀ x : Cls (ApC w vs f), Calls Tryz.prog 46 #[v0] x.w fun e w' => e = .returned (.bool true) ∧ ApC w vs f w') := Lib.hid (fun x => by
    obtain ⟨x, h1, f', h2, h3⟩ := x
    refine (flatBytes_any v0 vs f' x (SliceOf.onlyS he h1 hsep) h2 hd hsep hn (fun j => by rw [h3]; exact hf j)).mono ?_
    rintro e w' ⟨rfl, h4, f2, h5, h6⟩
    exact ⟨rfl, h1.trans h4 (fun _ _ h => h), f2, h5, fun j => by rw [h6, h3]⟩)
  have h0 : ApC w vs f w := ⟨Only.refl _ _, f, hr, fun _ => rfl⟩
  have HC := Lib.hid h0
  clear h0 hr hd hsep hf he hg
  go_enter Tryz.func24, Tryz.ntmps24
  simp only [List.append_eq, List.cons_append, List.nil_append]
  have HL := Lib.hid (HLD.out 0 (.slice none 0 0) 48 _ rfl Tryz.underlying48 rfl _ HC.out)
  go_wp2_with (first | (with_reducible refine Agg.wpList_loadL HL.out rfl _ rfl rfl ?_))
  clear HL
  refine (flatLimbs_nil _).mono ?_
  rintro e w1 ⟨rfl, h1⟩
  have HC := Lib.hid (HCC.out _ _ HC.out h1)
  clear h1
  have HL := Lib.hid (HLD.out 1 (.slice none 0 0) 49 _ rfl Tryz.underlying49 rfl _ HC.out)
  go_wp2_with (first | (with_reducible refine Agg.wpList_loadL HL.out rfl _ rfl rfl ?_))
  clear HL
  refine (flatWords_nil _).mono ?_
  rintro e w2 ⟨rfl, h2⟩
  have HC := Lib.hid (HCC.out _ _ HC.out h2)
  clear h2
  have HL := Lib.hid (HLD.out 2 (.slice none 0 0) 50 _ rfl Tryz.underlying50 rfl _ HC.out)
  go_wp2_with (first | (with_reducible refine Agg.wpList_loadL HL.out rfl _ rfl rfl ?_))
  clear HL
  refine (flatInts_nil _).mono ?_
  rintro e w3 ⟨rfl, h3⟩
  have HC := Lib.hid (HCC.out _ _ HC.out h3)
  clear h3
  have HL := Lib.hid (HLD.out 3 (.slice none 0 0) 51 _ rfl Tryz.underlying51 rfl _ HC.out)
  go_wp2_with (first | (with_reducible refine Agg.wpList_loadL HL.out rfl _ rfl rfl ?_))
  clear HL
  refine (flatLongs_nil _).mono ?_
  rintro e w4 ⟨rfl, h4⟩
  have HC := Lib.hid (HCC.out _ _ HC.out h4)
  clear h4
  have HL := Lib.hid (HLD.out 4 (.slice none 0 0) 52 _ rfl Tryz.underlying52 rfl _ HC.out)
  go_wp2_with (first | (with_reducible refine Agg.wpList_loadL HL.out rfl _ rfl rfl ?_))
  clear HL
  refine (flatTexts_nil _).mono ?_
  rintro e w5 ⟨rfl, h5⟩
  have HC := Lib.hid (HCC.out _ _ HC.out h5)
  clear h5
  have HL := Lib.hid (HLD.out 5 (v0) 36 _ rfl Tryz.underlying36 rfl _ HC.out)
  go_wp2_with (first | (with_reducible refine Agg.wpList_loadL HL.out rfl _ rfl rfl ?_))
  clear HL
  refine (HCB.out ⟨_, HC.out⟩).mono ?_
  rintro e w6 ⟨rfl, h6⟩
  have HC := Lib.hid h6
  clear h6
  have HL := Lib.hid (HLD.out 6 (.slice none 0 0) 53 _ rfl Tryz.underlying53 rfl _ HC.out)
  go_wp2_with (first | (with_reducible refine Agg.wpList_loadL HL.out rfl _ rfl rfl ?_))
  clear HL
  refine (flatTruths_nil _).mono ?_
  rintro e w7 ⟨rfl, h7⟩
  have HC := Lib.hid (HCC.out _ _ HC.out h7)
  clear h7
  have HL := Lib.hid (HLD.out 7 (.slice none 0 0) 54 _ rfl Tryz.underlying54 rfl _ HC.out)
  go_wp2_with (first | (with_reducible refine Agg.wpList_loadL HL.out rfl _ rfl rfl ?_))
  clear HL
  refine (flatPaths_nil _).mono ?_
  rintro e w8 ⟨rfl, h8⟩
  have HC := Lib.hid (HCC.out _ _ HC.out h8)
  clear h8
  have HL := Lib.hid (HLD.out 8 (.slice none 0 0) 55 _ rfl Tryz.underlying55 rfl _ HC.out)
  go_wp2_with (first | (with_reducible refine Agg.wpList_loadL HL.out rfl _ rfl rfl ?_))
  clear HL
  refine (flatKids_nil _).mono ?_
  rintro e w9 ⟨rfl, h9⟩
  have HC := Lib.hid (HCC.out _ _ HC.out h9)
  clear h9
  have HL := Lib.hid (HLD.out 9 (.slice none 0 0) 56 _ rfl Tryz.underlying56 rfl _ HC.out)
  go_wp2_with (first | (with_reducible refine Agg.wpList_loadL HL.out rfl _ rfl rfl ?_))
  clear HL
  refine (flatNodes_nil _).mono ?_
  rintro e w10 ⟨rfl, h10⟩
  have HC := Lib.hid (HCC.out _ _ HC.out h10)
  clear h10
  have HL := Lib.hid (HLD.out 10 (.slice none 0 0) 57 _ rfl Tryz.underlying57 rfl _ HC.out)
  go_wp2_with (first | (with_reducible refine Agg.wpList_loadL HL.out rfl _ rfl rfl ?_))
  clear HL
  refine (flatLines_nil _).mono ?_
  rintro e w11 ⟨rfl, h11⟩
  have HC := Lib.hid (HCC.out _ _ HC.out h11)
  clear h11
  have HL := Lib.hid (HLD.out 11 (.slice none 0 0) 58 _ rfl Tryz.underlying58 rfl _ HC.out)
  go_wp2_with (first | (with_reducible refine Agg.wpList_loadL HL.out rfl _ rfl rfl ?_))
  clear HL
  refine (flatChanges_nil _).mono ?_
  rintro e w12 ⟨rfl, h12⟩
  have HC := Lib.hid (HCC.out _ _ HC.out h12)
  clear h12
  have HL := Lib.hid (HLD.out 12 (.slice none 0 0) 59 _ rfl Tryz.underlying59 rfl _ HC.out)
  go_wp2_with (first | (with_reducible refine Agg.wpList_loadL HL.out rfl _ rfl rfl ?_))
  clear HL
  refine (flatRuns_nil _).mono ?_
  rintro e w13 ⟨rfl, h13⟩
  have HC := Lib.hid (HCC.out _ _ HC.out h13)
  clear h13
  have HL := Lib.hid (HLD.out 13 (.slice none 0 0) 60 _ rfl Tryz.underlying60 rfl _ HC.out)
  go_wp2_with (first | (with_reducible refine Agg.wpList_loadL HL.out rfl _ rfl rfl ?_))
  clear HL
  refine (flatObjects_nil _).mono ?_
  rintro e w14 ⟨rfl, h14⟩
  have HC := Lib.hid (HCC.out _ _ HC.out h14)
  clear h14
  have HL := Lib.hid (HLD.out 14 (.slice none 0 0) 61 _ rfl Tryz.underlying61 rfl _ HC.out)
  go_wp2_with (first | (with_reducible refine Agg.wpList_loadL HL.out rfl _ rfl rfl ?_))
  clear HL
  refine (flatQuotas_nil _).mono ?_
  rintro e w15 ⟨rfl, h15⟩
  have HC := Lib.hid (HCC.out _ _ HC.out h15)
  clear h15
  have HL := Lib.hid (HLD.out 15 (.slice none 0 0) 62 _ rfl Tryz.underlying62 rfl _ HC.out)
  go_wp2_with (first | (with_reducible refine Agg.wpList_loadL HL.out rfl _ rfl rfl ?_))
  clear HL
  refine (flatNameds_nil _).mono ?_
  rintro e w16 ⟨rfl, h16⟩
  have HC := Lib.hid (HCC.out _ _ HC.out h16)
  clear h16
  have HL := Lib.hid (HLD.out 16 (.slice none 0 0) 63 _ rfl Tryz.underlying63 rfl _ HC.out)
  go_wp2_with (first | (with_reducible refine Agg.wpList_loadL HL.out rfl _ rfl rfl ?_))
  clear HL
  refine (flatDrvs_nil _).mono ?_
  rintro e w17 ⟨rfl, h17⟩
  have HC := Lib.hid (HCC.out _ _ HC.out h17)
  clear h17
  have HL := Lib.hid (HLD.out 17 (.slice none 0 0) 64 _ rfl Tryz.underlying64 rfl _ HC.out)
  go_wp2_with (first | (with_reducible refine Agg.wpList_loadL HL.out rfl _ rfl rfl ?_))
  clear HL
  refine (flatMades_nil _).mono ?_
  rintro e w18 ⟨rfl, h18⟩
  have HC := Lib.hid (HCC.out _ _ HC.out h18)
  clear h18
  have HL := Lib.hid (HLD.out 18 (.slice none 0 0) 65 _ rfl Tryz.underlying65 rfl _ HC.out)
  go_wp2_with (first | (with_reducible refine Agg.wpList_loadL HL.out rfl _ rfl rfl ?_))
  clear HL
  refine (flatBuilts_nil _).mono ?_
  rintro e w19 ⟨rfl, h19⟩
  have HC := Lib.hid (HCC.out _ _ HC.out h19)
  clear h19
  have HL := Lib.hid (HLD.out 19 (.slice none 0 0) 66 _ rfl Tryz.underlying66 rfl _ HC.out)
  go_wp2_with (first | (with_reducible refine Agg.wpList_loadL HL.out rfl _ rfl rfl ?_))
  clear HL
  refine (flatRequests_nil _).mono ?_
  rintro e w20 ⟨rfl, h20⟩
  have HC := Lib.hid (HCC.out _ _ HC.out h20)
  clear h20
  have HL := Lib.hid (HLD.out 20 (.slice none 0 0) 67 _ rfl Tryz.underlying67 rfl _ HC.out)
  go_wp2_with (first | (with_reducible refine Agg.wpList_loadL HL.out rfl _ rfl rfl ?_))
  clear HL
  refine (flatReplies_nil _).mono ?_
  rintro e w21 ⟨rfl, h21⟩
  have HC := Lib.hid (HCC.out _ _ HC.out h21)
  clear h21
  go_wp2_with fail
  go_ret
  exact ⟨rfl, HC.out⟩
end Go.Proofs.YtdedpcdbnpnbeaaGreatDoor
/-! One cell of a block written; (*bag).putBytes. -/
namespace Go.Proofs.YtdedpcdbnpnbeaaGreatDoor
open Go.RowKit Pl Go.Agg
theorem bag_put {w w1 : World} {g : Nat} {v0 v1 : Value} {l : List SV} (hg : Blk w g 69 (bagC v0)) (ho : Own EBB (g + 1) w1 v1 l) (hp : Pushed EBB (g + 1) w w1 v0) :
    ∃ w2, (Instr.storeAt 36 (.pointer (some ⟨g, 5, none⟩)) v1).run Tryz.prog w1 = .ok () w2 ∧ Blk w2 g 69 (bagC v1) ∧ Own EBB (g + 1) w2 v1 l ∧ Below g w w2 := by
  have h1 : Blk w1 g 69 (bagC v0) := hp.blk g _ _ _ (by decide) hg
  obtain ⟨p, c, rfl⟩ := ho.slice.form
  refine ⟨_, h1.run_put 5 (by simp [bagC]) _ rfl rfl (by kernel_rfl), h1.set 5 _, ho.keep fun k cur t fr hk hb => ?_, ?_⟩
  · rw [Below.heap_setCell _ _ _ _ (by show k ≠ g; omega)]; exact hb
  · have hb := hp.below g (by omega) (Nat.le_of_lt hg.lt)
    exact hb.setCell (Nat.le_refl _) _
set_option maxRecDepth 100000 in
set_option maxHeartbeats 1000000 in
theorem putBytes_any (g : Nat) (v0 : Value) (vs : List SV) (x : SV) (w : World) (hg : Blk w g 69 (bagC v0)) (ho : Own EBB (g + 1) w v0 vs) (hn : vs.length ≤ 4194304) :
    Calls Tryz.prog 23 #[.pointer (some ⟨g, 0, none⟩), x.1] w fun e w' => (∃ r, e = .returned r) ∧ ∃ v', Blk w' g 69 (bagC v') ∧ Own EBB (g + 1) w' v' (vs ++ [x]) ∧ Below g w w' := by
  have hl : LoadsL Tryz.prog w 36 (some ⟨g, 5, none⟩) v0 := hg.one (P := Tryz.prog) 5 rfl (by kernel_rfl : Tryz.prog.underlying 36 = some (.slice 23)) rfl
  have HL := Lib.hid hl
  have HG := Lib.hid hg
  have HO := Lib.hid ho
  have hlt := hg.lt
  have h63 : vs.length + 1 ≤ 1099511627776 / 8 := by omega
  have hbase : g + 1 ≤ w.heap.size := hlt
  clear hl hg ho
  go_enter Tryz.func23, Tryz.ntmps23
  go_wp2_with (first | (with_reducible refine Agg.wpList_loadL HL.out rfl _ rfl rfl ?_) | (refine Agg.wpList_push (E := EBB) (base := g + 1) rfl rfl 10 rfl _ rfl _ rfl x rfl (fun _ => rfl) (by simp) HO.out h63 (by decide) hbase ?_; intro u1 v1 w1 ho1 hp1; obtain ⟨w2, hrun, hfin⟩ := bag_put HG.out ho1 hp1; have HFIN := Lib.hid hfin; clear ho1 hp1 hfin) | (refine Agg.wpList_store rfl rfl 36 _ _ rfl (.pointer (some ⟨g, 5, none⟩)) _ rfl rfl hrun ?_))
  refine bodyPost_end (results_none rfl _ _ _) rfl ?_
  exact ⟨⟨_, rfl⟩, _, HFIN.out.1, HFIN.out.2.1, HFIN.out.2.2⟩
end Go.Proofs.YtdedpcdbnpnbeaaGreatDoor
/-! spencekit.ApartBytes. -/
namespace Go.Proofs.YtdedpcdbnpnbeaaGreatDoor
open Go.RowKit Pl Go.Agg
set_option maxRecDepth 100000 in
set_option maxHeartbeats 1000000 in
theorem apartBytes_any (v0 : Value) (vs : List SV) (f : Nat → List UInt8) (w : World) (he : BBAt w v0 vs) (hr : RoomsOf EB w vs f) (hd : Dist vs) (hn : vs.length ≤ 4194304) (hf : ∀ j, (f j).length ≤ 8388608) :
    Calls Tryz.prog 12 #[v0] w fun e w' => e = .returned (.bool true) ∧ Only (SS vs) w w' := by
  have hlv := fun W => bb_len he W
  have HE := Lib.hid he
  have HR := Lib.hid hr
  have HD := Lib.hid hd
  clear he hr hd
  have hbld : ∀ W, (Instr.build 69 #[]).run Tryz.prog W = .ok (.agg (bagC (.slice none 0 0))) W := fun W => by kernel_rfl
  have HBLD := Lib.hid hbld
  clear hbld
  go_enter Tryz.func12, Tryz.ntmps12
  go_wp2_with (first | (with_reducible refine Agg.wpList_build0 69 rfl rfl (.agg (bagC (.slice none 0 0))) HBLD.out ?_) | (with_reducible refine Agg.wpList_box rfl 69 _ rfl (bagC (.slice none 0 0)) rfl ?_; intro g w1 hb1 hx1 hlt1))
  go_loopw [4] (fun i wr => ∃ k : Nat, k ≤ vs.length ∧ i = .int .i64 k ∧ ∃ u, Blk wr g 69 (bagC u) ∧ Own EBB (g + 1) wr u (vs.take k) ∧ Below w.heap.size w wr) (fun i _ => vs.length - (intOf i).toNat)
  case atStart => exact ⟨0, by omega, rfl, _, hb1, Own.nil _ _ _, hx1⟩
  case round =>
    clear hb1 hx1
    obtain ⟨w2, rfl⟩ : ∃ w2 : World, w2 = wr := ⟨_, rfl⟩
    obtain ⟨k, hk, rfl, u, hb, ho, hw⟩ := hrel
    have HB := Lib.hid hb
    have HO := Lib.hid ho
    have HW := Lib.hid hw
    clear hb ho hw
    by_cases hlt : k < vs.length
    · obtain ⟨v, hvk⟩ : ∃ v, vs[k]? = some v := ⟨_, List.getElem?_eq_getElem hlt⟩
      have HV := Lib.hid hvk
      obtain ⟨q, hadr, hld⟩ := bb_at (SliceOf.below HE.out HW.out) k v hvk
      have HL := Lib.hid hld
      have hkl : (vs.take k).length ≤ k := List.length_take_le _ _
      clear hvk hld
      go_wp2_with (first | (with_reducible refine Agg.wpList_loadL HL.out rfl _ rfl rfl ?_))
      refine (putBytes_any g u (vs.take k) v w2 HB.out HO.out (by omega)).mono ?_
      rintro e w3 ⟨⟨r, rfl⟩, u3, hb3, ho3, hw3⟩
      have ht : vs.take k ++ [v] = vs.take (k + 1) := by rw [List.take_add_one, HV.out]; rfl
      rw [ht] at ho3
      go_wp2_with fail
      go_roundw
      case rel => exact ⟨k + 1, by omega, by go_num, _, hb3, ho3, HW.out.trans (hw3.mono hlt1)⟩
      case measure => simp [intOf]; omega
    · obtain rfl : k = vs.length := by omega
      have ho := HO.out
      rw [List.take_length] at ho
      have hss : ∀ b, SS vs b → b < w.heap.size := HR.out.lt
      have hsep : ∀ b, u.ownBlock = some b → ¬ SS vs b := fun b hb h => by
        have h1 := (ho.block b hb).1
        have h2 := hss b h
        omega
      have hgS : ¬ SS vs g := fun h => by have := hss g h; omega
      have HA := Lib.hid (apart_any g u vs f w2 HB.out hgS ho.slice (HR.out.below HW.out) HD.out hsep hn hf)
      clear ho hss hsep hgS
      go_wp2_with fail
      refine HA.out.mono ?_
      rintro e w3 ⟨rfl, h3, _⟩
      go_wp2_with fail
      go_ret
      exact ⟨rfl, (Only.of_below HW.out).trans h3 (fun _ _ h => h)⟩
end Go.Proofs.YtdedpcdbnpnbeaaGreatDoor
/-! Rows of slices and what they hold, as lists. -/
namespace Go.Agg
open Go.RowKit
section
variable {P : Program} {α : Type} {E : Elem P α}
/-- the blocks of two rows of slices are apart -/
def Cross (vs us : List SV) : Prop := ∀ b, SS vs b → ¬ SS us b
theorem Dist.append {vs us : List SV} (h : Dist vs) (k : Dist us) (hc : Cross vs us) : Dist (vs ++ us) := by
  have one : ∀ (i : Nat) (u : SV), (vs ++ us)[i]? = some u → (i < vs.length ∧ vs[i]? = some u) ∨ (vs.length ≤ i ∧ us[i - vs.length]? = some u) := fun i u h => by
    by_cases hi : i < vs.length
    · rw [List.getElem?_append_left hi] at h; exact .inl ⟨hi, h⟩
    · rw [List.getElem?_append_right (by omega)] at h; exact .inr ⟨by omega, h⟩
  intro i j u v hi hj hij b hu hv
  rcases one i u hi with ⟨h1, h2⟩ | ⟨h1, h2⟩ <;> rcases one j v hj with ⟨h3, h4⟩ | ⟨h3, h4⟩
  · exact h i j u v h2 h4 hij b hu hv
  · exact hc b ⟨_, u, h2, hu⟩ ⟨_, v, h4, hv⟩
  · exact hc b ⟨_, v, h4, hv⟩ ⟨_, u, h2, hu⟩
  · exact k _ _ u v h2 h4 (by omega) b hu hv
theorem ss_append {vs us : List SV} {b : Nat} (h : SS (vs ++ us) b) : SS vs b ∨ SS us b := by
  obtain ⟨i, u, hi, hb⟩ := h
  by_cases hl : i < vs.length
  · rw [List.getElem?_append_left hl] at hi; exact .inl ⟨i, u, hi, hb⟩
  · rw [List.getElem?_append_right (by omega)] at hi; exact .inr ⟨_, u, hi, hb⟩
theorem dist_one (v : SV) : Dist [v] := by
  intro i j u w hi hj hij
  match i, j, hi, hj with
  | 0, 0, _, _ => exact absurd rfl hij
  | 0, n + 1, _, hj => simp at hj
  | n + 1, _, hi, _ => simp at hi
theorem ss_one {v : SV} {b : Nat} (h : SS [v] b) : v.1.ownBlock = some b := by
  obtain ⟨i, u, hi, hb⟩ := h
  match i, hi with
  | 0, hi =>
    obtain rfl : v = u := by simpa using hi
    exact hb
/-- what is in rows, as a list -/
structure RoomsL (E : Elem P α) (w : World) (vs : List SV) (fs : List (List α)) : Prop where
  len : vs.length = fs.length
  row : ∀ (k : Nat) (v : SV) (l : List α), vs[k]? = some v → fs[k]? = some l → RoomN E w v.1 l
theorem RoomsL.of {w : World} {vs : List SV} {fs : List (List α)} (h : RoomsL E w vs fs) : RoomsOf E w vs fun k => (fs[k]?).getD [] := fun k v hk => by
  obtain ⟨l, hl⟩ : ∃ l, fs[k]? = some l := ⟨_, List.getElem?_eq_getElem (by rw [← h.len]; exact (List.getElem?_eq_some_iff.1 hk).1)⟩
  show RoomN E w v.1 ((fs[k]?).getD [])
  rw [hl]
  exact h.row k v l hk hl
theorem RoomsL.append {w : World} {vs us : List SV} {fs gs : List (List α)} (h : RoomsL E w vs fs) (k : RoomsL E w us gs) : RoomsL E w (vs ++ us) (fs ++ gs) := by
  have h1 := h.len
  refine ⟨by simp [h.len, k.len], fun i s l hs hl => ?_⟩
  by_cases hi : i < vs.length
  · rw [List.getElem?_append_left hi] at hs
    rw [List.getElem?_append_left (by omega)] at hl
    exact h.row i s l hs hl
  · rw [List.getElem?_append_right (by omega)] at hs hl
    rw [show i - fs.length = i - vs.length by omega] at hl
    exact k.row _ s l hs hl
theorem RoomsL.one {w : World} {v : SV} {l : List α} (h : RoomN E w v.1 l) : RoomsL E w [v] [l] := ⟨rfl, fun k u m hk hm => by
  match k, hk, hm with
  | 0, hk, hm =>
    obtain rfl : v = u := by simpa using hk
    obtain rfl : l = m := by simpa using hm
    exact h⟩
end
end Go.Agg
