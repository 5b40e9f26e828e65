/- spencekit.LentRequest, KeptRequest. (Several texts in one.) -/
import Derived.Test.YtpnolgliklmnmaaGreatGBH
import Derived.Test.YtpnolgliklmnmaaGreatGBJ
import Derived.Test.YtpnolgliklmnmaaGreatGAF
import Derived.Test.YtpnolgliklmnmaaGreatGAA
import Derived.Test.YtpnolgliklmnmaaGreatLentR
import Derived.Test.YtpnolgliklmnmaaGreatGAG
import Derived.Test.YtpnolgliklmnmaaGreatGBF
import Derived.Test.YtpnolgliklmnmaaGreatGBA
import Derived.Test.YtpnolgliklmnmaaGreatGBB
/-! (*spencekit.bag).apart of rows of bytes alone. -/
namespace Go.Proofs.YtpnolgliklmnmaaGreat
open Go.RowKit Pl Go.Agg
def bagC (v0 : Value) : Array Value := #[.slice none 0 0, .slice none 0 0, .slice none 0 0, .slice none 0 0, .slice none 0 0, v0, .slice none 0 0, .slice none 0 0, .slice none 0 0, .slice none 0 0, .slice none 0 0, .slice none 0 0, .slice none 0 0, .slice none 0 0, .slice none 0 0, .slice none 0 0, .slice none 0 0, .slice none 0 0, .slice none 0 0, .slice none 0 0, .slice none 0 0]
/-- what apart may do -/
def ApC (w : World) (vs : List SV) (f : Nat → List UInt8) (w' : World) : Prop := Only (SS vs) w w' ∧ ∃ f', RoomsOf EB w' vs f' ∧ ∀ j, (f' j).length = (f j).length
theorem ApC.below {w : World} {vs : List SV} {f : Nat → List UInt8} (a b : World) (h : ApC w vs f a) (hb : Below a.heap.size a b) : ApC w vs f b := by
  obtain ⟨h1, f', h2, h3⟩ := h
  exact ⟨h1.trans (Only.of_below (S := fun _ => False) hb) (fun _ _ h => h.elim), f', h2.below hb, h3⟩
set_option maxRecDepth 100000 in
set_option maxHeartbeats 2000000 in
theorem apart_any (g : Nat) (v0 : Value) (vs : List SV) (f : Nat → List UInt8) (w : World) (hg : Blk w g 124 (bagC v0)) (hgS : ¬ SS vs g) (he : BBAt w v0 vs) (hr : RoomsOf EB w vs f) (hd : Dist vs) (hsep : ∀ b, v0.ownBlock = some b → ¬ SS vs b) (hn : vs.length ≤ 4194304) (hf : ∀ j, (f j).length ≤ 8388608) :
    Calls Tryz.prog 69 #[.pointer (some ⟨g, 0, none⟩)] w fun e w' => e = .returned (.bool true) ∧ ApC w vs f w' := by
  have hld : ∀ (k : Nat) (v : Value) (ty : TypeId) (d : TypeDesc), (bagC v0)[k]? = some v → Tryz.prog.underlying ty = some d → (match d with | .struct _ | .array _ _ => true | _ => false) = false →
      ∀ w', ApC w vs f w' → LoadsL Tryz.prog w' ty (some ⟨g, k, none⟩) v := by
    intro k v ty d hk hu hd w' hx
    have hb : Blk w' g 124 (bagC v0) := (hx.1.block g hg.lt hgS).trans hg
    exact hb.one (P := Tryz.prog) k hk hu (by cases d <;> first | rfl | cases hd)
  have HLD := Lib.hid hld
  clear hld
  have HCC : Hid (∀ a b, ApC w vs f a → Below a.heap.size a b → ApC w vs f b) := Lib.hid ApC.below
  have HCB : Hid (∀ x : Cls (ApC w vs f), Calls Tryz.prog 100 #[v0] x.w fun e w' => e = .returned (.bool true) ∧ ApC w vs f w') := Lib.hid (fun x => by
    obtain ⟨x, h1, f', h2, h3⟩ := x
    refine (flatBytes_any v0 vs f' x (SliceOf.onlyS he h1 hsep) h2 hd hsep hn (fun j => by rw [h3]; exact hf j)).mono ?_
    rintro e w' ⟨rfl, h4, f2, h5, h6⟩
    exact ⟨rfl, h1.trans h4 (fun _ _ h => h), f2, h5, fun j => by rw [h6, h3]⟩)
  have h0 : ApC w vs f w := ⟨Only.refl _ _, f, hr, fun _ => rfl⟩
  have HC := Lib.hid h0
  clear h0 hr hd hsep hf he hg
  go_enter Tryz.func69, Tryz.ntmps69
  simp only [List.append_eq, List.cons_append, List.nil_append]
  have HL := Lib.hid (HLD.out 0 (.slice none 0 0) 104 _ rfl Tryz.underlying104 rfl _ HC.out)
  go_wp2_with (first | (with_reducible refine Agg.wpList_loadL HL.out rfl _ rfl rfl ?_))
  clear HL
  refine (flatLimbs_nil _).mono ?_
  rintro e w1 ⟨rfl, h1⟩
  have HC := Lib.hid (HCC.out _ _ HC.out h1)
  clear h1
  have HL := Lib.hid (HLD.out 1 (.slice none 0 0) 105 _ rfl Tryz.underlying105 rfl _ HC.out)
  go_wp2_with (first | (with_reducible refine Agg.wpList_loadL HL.out rfl _ rfl rfl ?_))
  clear HL
  refine (flatWords_nil _).mono ?_
  rintro e w2 ⟨rfl, h2⟩
  have HC := Lib.hid (HCC.out _ _ HC.out h2)
  clear h2
  have HL := Lib.hid (HLD.out 2 (.slice none 0 0) 106 _ rfl Tryz.underlying106 rfl _ HC.out)
  go_wp2_with (first | (with_reducible refine Agg.wpList_loadL HL.out rfl _ rfl rfl ?_))
  clear HL
  refine (flatInts_nil _).mono ?_
  rintro e w3 ⟨rfl, h3⟩
  have HC := Lib.hid (HCC.out _ _ HC.out h3)
  clear h3
  have HL := Lib.hid (HLD.out 3 (.slice none 0 0) 107 _ rfl Tryz.underlying107 rfl _ HC.out)
  go_wp2_with (first | (with_reducible refine Agg.wpList_loadL HL.out rfl _ rfl rfl ?_))
  clear HL
  refine (flatLongs_nil _).mono ?_
  rintro e w4 ⟨rfl, h4⟩
  have HC := Lib.hid (HCC.out _ _ HC.out h4)
  clear h4
  have HL := Lib.hid (HLD.out 4 (.slice none 0 0) 108 _ rfl Tryz.underlying108 rfl _ HC.out)
  go_wp2_with (first | (with_reducible refine Agg.wpList_loadL HL.out rfl _ rfl rfl ?_))
  clear HL
  refine (flatTexts_nil _).mono ?_
  rintro e w5 ⟨rfl, h5⟩
  have HC := Lib.hid (HCC.out _ _ HC.out h5)
  clear h5
  have HL := Lib.hid (HLD.out 5 (v0) 42 _ rfl Tryz.underlying42 rfl _ HC.out)
  go_wp2_with (first | (with_reducible refine Agg.wpList_loadL HL.out rfl _ rfl rfl ?_))
  clear HL
  refine (HCB.out ⟨_, HC.out⟩).mono ?_
  rintro e w6 ⟨rfl, h6⟩
  have HC := Lib.hid h6
  clear h6
  have HL := Lib.hid (HLD.out 6 (.slice none 0 0) 109 _ rfl Tryz.underlying109 rfl _ HC.out)
  go_wp2_with (first | (with_reducible refine Agg.wpList_loadL HL.out rfl _ rfl rfl ?_))
  clear HL
  refine (flatTruths_nil _).mono ?_
  rintro e w7 ⟨rfl, h7⟩
  have HC := Lib.hid (HCC.out _ _ HC.out h7)
  clear h7
  have HL := Lib.hid (HLD.out 7 (.slice none 0 0) 110 _ rfl Tryz.underlying110 rfl _ HC.out)
  go_wp2_with (first | (with_reducible refine Agg.wpList_loadL HL.out rfl _ rfl rfl ?_))
  clear HL
  refine (flatPaths_nil _).mono ?_
  rintro e w8 ⟨rfl, h8⟩
  have HC := Lib.hid (HCC.out _ _ HC.out h8)
  clear h8
  have HL := Lib.hid (HLD.out 8 (.slice none 0 0) 111 _ rfl Tryz.underlying111 rfl _ HC.out)
  go_wp2_with (first | (with_reducible refine Agg.wpList_loadL HL.out rfl _ rfl rfl ?_))
  clear HL
  refine (flatKids_nil _).mono ?_
  rintro e w9 ⟨rfl, h9⟩
  have HC := Lib.hid (HCC.out _ _ HC.out h9)
  clear h9
  have HL := Lib.hid (HLD.out 9 (.slice none 0 0) 112 _ rfl Tryz.underlying112 rfl _ HC.out)
  go_wp2_with (first | (with_reducible refine Agg.wpList_loadL HL.out rfl _ rfl rfl ?_))
  clear HL
  refine (flatNodes_nil _).mono ?_
  rintro e w10 ⟨rfl, h10⟩
  have HC := Lib.hid (HCC.out _ _ HC.out h10)
  clear h10
  have HL := Lib.hid (HLD.out 10 (.slice none 0 0) 113 _ rfl Tryz.underlying113 rfl _ HC.out)
  go_wp2_with (first | (with_reducible refine Agg.wpList_loadL HL.out rfl _ rfl rfl ?_))
  clear HL
  refine (flatLines_nil _).mono ?_
  rintro e w11 ⟨rfl, h11⟩
  have HC := Lib.hid (HCC.out _ _ HC.out h11)
  clear h11
  have HL := Lib.hid (HLD.out 11 (.slice none 0 0) 114 _ rfl Tryz.underlying114 rfl _ HC.out)
  go_wp2_with (first | (with_reducible refine Agg.wpList_loadL HL.out rfl _ rfl rfl ?_))
  clear HL
  refine (flatChanges_nil _).mono ?_
  rintro e w12 ⟨rfl, h12⟩
  have HC := Lib.hid (HCC.out _ _ HC.out h12)
  clear h12
  have HL := Lib.hid (HLD.out 12 (.slice none 0 0) 115 _ rfl Tryz.underlying115 rfl _ HC.out)
  go_wp2_with (first | (with_reducible refine Agg.wpList_loadL HL.out rfl _ rfl rfl ?_))
  clear HL
  refine (flatRuns_nil _).mono ?_
  rintro e w13 ⟨rfl, h13⟩
  have HC := Lib.hid (HCC.out _ _ HC.out h13)
  clear h13
  have HL := Lib.hid (HLD.out 13 (.slice none 0 0) 116 _ rfl Tryz.underlying116 rfl _ HC.out)
  go_wp2_with (first | (with_reducible refine Agg.wpList_loadL HL.out rfl _ rfl rfl ?_))
  clear HL
  refine (flatObjects_nil _).mono ?_
  rintro e w14 ⟨rfl, h14⟩
  have HC := Lib.hid (HCC.out _ _ HC.out h14)
  clear h14
  have HL := Lib.hid (HLD.out 14 (.slice none 0 0) 117 _ rfl Tryz.underlying117 rfl _ HC.out)
  go_wp2_with (first | (with_reducible refine Agg.wpList_loadL HL.out rfl _ rfl rfl ?_))
  clear HL
  refine (flatQuotas_nil _).mono ?_
  rintro e w15 ⟨rfl, h15⟩
  have HC := Lib.hid (HCC.out _ _ HC.out h15)
  clear h15
  have HL := Lib.hid (HLD.out 15 (.slice none 0 0) 118 _ rfl Tryz.underlying118 rfl _ HC.out)
  go_wp2_with (first | (with_reducible refine Agg.wpList_loadL HL.out rfl _ rfl rfl ?_))
  clear HL
  refine (flatNameds_nil _).mono ?_
  rintro e w16 ⟨rfl, h16⟩
  have HC := Lib.hid (HCC.out _ _ HC.out h16)
  clear h16
  have HL := Lib.hid (HLD.out 16 (.slice none 0 0) 119 _ rfl Tryz.underlying119 rfl _ HC.out)
  go_wp2_with (first | (with_reducible refine Agg.wpList_loadL HL.out rfl _ rfl rfl ?_))
  clear HL
  refine (flatDrvs_nil _).mono ?_
  rintro e w17 ⟨rfl, h17⟩
  have HC := Lib.hid (HCC.out _ _ HC.out h17)
  clear h17
  have HL := Lib.hid (HLD.out 17 (.slice none 0 0) 120 _ rfl Tryz.underlying120 rfl _ HC.out)
  go_wp2_with (first | (with_reducible refine Agg.wpList_loadL HL.out rfl _ rfl rfl ?_))
  clear HL
  refine (flatMades_nil _).mono ?_
  rintro e w18 ⟨rfl, h18⟩
  have HC := Lib.hid (HCC.out _ _ HC.out h18)
  clear h18
  have HL := Lib.hid (HLD.out 18 (.slice none 0 0) 121 _ rfl Tryz.underlying121 rfl _ HC.out)
  go_wp2_with (first | (with_reducible refine Agg.wpList_loadL HL.out rfl _ rfl rfl ?_))
  clear HL
  refine (flatBuilts_nil _).mono ?_
  rintro e w19 ⟨rfl, h19⟩
  have HC := Lib.hid (HCC.out _ _ HC.out h19)
  clear h19
  have HL := Lib.hid (HLD.out 19 (.slice none 0 0) 122 _ rfl Tryz.underlying122 rfl _ HC.out)
  go_wp2_with (first | (with_reducible refine Agg.wpList_loadL HL.out rfl _ rfl rfl ?_))
  clear HL
  refine (flatRequests_nil _).mono ?_
  rintro e w20 ⟨rfl, h20⟩
  have HC := Lib.hid (HCC.out _ _ HC.out h20)
  clear h20
  have HL := Lib.hid (HLD.out 20 (.slice none 0 0) 56 _ rfl Tryz.underlying56 rfl _ HC.out)
  go_wp2_with (first | (with_reducible refine Agg.wpList_loadL HL.out rfl _ rfl rfl ?_))
  clear HL
  refine (flatReplies_nil _).mono ?_
  rintro e w21 ⟨rfl, h21⟩
  have HC := Lib.hid (HCC.out _ _ HC.out h21)
  clear h21
  go_wp2_with fail
  go_ret
  exact ⟨rfl, HC.out⟩
end Go.Proofs.YtpnolgliklmnmaaGreat
/-! One cell of a block written; (*bag).putBytes. -/
namespace Go.Proofs.YtpnolgliklmnmaaGreat
open Go.RowKit Pl Go.Agg
theorem bag_put {w w1 : World} {g : Nat} {v0 v1 : Value} {l : List SV} (hg : Blk w g 124 (bagC v0)) (ho : Own EBB (g + 1) w1 v1 l) (hp : Pushed EBB (g + 1) w w1 v0) :
    ∃ w2, (Instr.storeAt 42 (.pointer (some ⟨g, 5, none⟩)) v1).run Tryz.prog w1 = .ok () w2 ∧ Blk w2 g 124 (bagC v1) ∧ Own EBB (g + 1) w2 v1 l ∧ Below g w w2 := by
  have h1 : Blk w1 g 124 (bagC v0) := hp.blk g _ _ _ (by decide) hg
  obtain ⟨p, c, rfl⟩ := ho.slice.form
  refine ⟨_, h1.run_put 5 (by simp [bagC]) _ rfl rfl (by kernel_rfl), h1.set 5 _, ho.keep fun k cur t fr hk hb => ?_, ?_⟩
  · rw [Below.heap_setCell _ _ _ _ (by show k ≠ g; omega)]; exact hb
  · have hb := hp.below g (by omega) (Nat.le_of_lt hg.lt)
    exact hb.setCell (Nat.le_refl _) _
set_option maxRecDepth 100000 in
set_option maxHeartbeats 1000000 in
theorem putBytes_any (g : Nat) (v0 : Value) (vs : List SV) (x : SV) (w : World) (hg : Blk w g 124 (bagC v0)) (ho : Own EBB (g + 1) w v0 vs) (hn : vs.length ≤ 4194304) :
    Calls Tryz.prog 68 #[.pointer (some ⟨g, 0, none⟩), x.1] w fun e w' => (∃ r, e = .returned r) ∧ ∃ v', Blk w' g 124 (bagC v') ∧ Own EBB (g + 1) w' v' (vs ++ [x]) ∧ Below g w w' := by
  have hl : LoadsL Tryz.prog w 42 (some ⟨g, 5, none⟩) v0 := hg.one (P := Tryz.prog) 5 rfl (by kernel_rfl : Tryz.prog.underlying 42 = some (.slice 23)) rfl
  have HL := Lib.hid hl
  have HG := Lib.hid hg
  have HO := Lib.hid ho
  have hlt := hg.lt
  have h63 : vs.length + 1 ≤ 1099511627776 / 8 := by omega
  have hbase : g + 1 ≤ w.heap.size := hlt
  clear hl hg ho
  go_enter Tryz.func68, Tryz.ntmps68
  go_wp2_with (first | (with_reducible refine Agg.wpList_loadL HL.out rfl _ rfl rfl ?_) | (refine Agg.wpList_push (E := EBB) (base := g + 1) rfl rfl 10 rfl _ rfl _ rfl x rfl (fun _ => rfl) (by simp) HO.out h63 (by decide) hbase ?_; intro u1 v1 w1 ho1 hp1; obtain ⟨w2, hrun, hfin⟩ := bag_put HG.out ho1 hp1; have HFIN := Lib.hid hfin; clear ho1 hp1 hfin) | (refine Agg.wpList_store rfl rfl 42 _ _ rfl (.pointer (some ⟨g, 5, none⟩)) _ rfl rfl hrun ?_))
  refine bodyPost_end (results_none rfl _ _ _) rfl ?_
  exact ⟨⟨_, rfl⟩, _, HFIN.out.1, HFIN.out.2.1, HFIN.out.2.2⟩
end Go.Proofs.YtpnolgliklmnmaaGreat
/-! spencekit.ApartBytes. -/
namespace Go.Proofs.YtpnolgliklmnmaaGreat
open Go.RowKit Pl Go.Agg
set_option maxRecDepth 100000 in
set_option maxHeartbeats 1000000 in
theorem apartBytes_any (v0 : Value) (vs : List SV) (f : Nat → List UInt8) (w : World) (he : BBAt w v0 vs) (hr : RoomsOf EB w vs f) (hd : Dist vs) (hn : vs.length ≤ 4194304) (hf : ∀ j, (f j).length ≤ 8388608) :
    Calls Tryz.prog 17 #[v0] w fun e w' => e = .returned (.bool true) ∧ Only (SS vs) w w' := by
  have hlv := fun W => bb_len he W
  have HE := Lib.hid he
  have HR := Lib.hid hr
  have HD := Lib.hid hd
  clear he hr hd
  have hbld : ∀ W, (Instr.build 124 #[]).run Tryz.prog W = .ok (.agg (bagC (.slice none 0 0))) W := fun W => by kernel_rfl
  have HBLD := Lib.hid hbld
  clear hbld
  go_enter Tryz.func17, Tryz.ntmps17
  go_wp2_with (first | (with_reducible refine Agg.wpList_build0 124 rfl rfl (.agg (bagC (.slice none 0 0))) HBLD.out ?_) | (with_reducible refine Agg.wpList_box rfl 124 _ rfl (bagC (.slice none 0 0)) rfl ?_; intro g w1 hb1 hx1 hlt1))
  go_loopw [4] (fun i wr => ∃ k : Nat, k ≤ vs.length ∧ i = .int .i64 k ∧ ∃ u, Blk wr g 124 (bagC u) ∧ Own EBB (g + 1) wr u (vs.take k) ∧ Below w.heap.size w wr) (fun i _ => vs.length - (intOf i).toNat)
  case atStart => exact ⟨0, by omega, rfl, _, hb1, Own.nil _ _ _, hx1⟩
  case round =>
    clear hb1 hx1
    obtain ⟨w2, rfl⟩ : ∃ w2 : World, w2 = wr := ⟨_, rfl⟩
    obtain ⟨k, hk, rfl, u, hb, ho, hw⟩ := hrel
    have HB := Lib.hid hb
    have HO := Lib.hid ho
    have HW := Lib.hid hw
    clear hb ho hw
    by_cases hlt : k < vs.length
    · obtain ⟨v, hvk⟩ : ∃ v, vs[k]? = some v := ⟨_, List.getElem?_eq_getElem hlt⟩
      have HV := Lib.hid hvk
      obtain ⟨q, hadr, hld⟩ := bb_at (SliceOf.below HE.out HW.out) k v hvk
      have HL := Lib.hid hld
      have hkl : (vs.take k).length ≤ k := List.length_take_le _ _
      clear hvk hld
      go_wp2_with (first | (with_reducible refine Agg.wpList_loadL HL.out rfl _ rfl rfl ?_))
      refine (putBytes_any g u (vs.take k) v w2 HB.out HO.out (by omega)).mono ?_
      rintro e w3 ⟨⟨r, rfl⟩, u3, hb3, ho3, hw3⟩
      have ht : vs.take k ++ [v] = vs.take (k + 1) := by rw [List.take_add_one, HV.out]; rfl
      rw [ht] at ho3
      go_wp2_with fail
      go_roundw
      case rel => exact ⟨k + 1, by omega, by go_num, _, hb3, ho3, HW.out.trans (hw3.mono hlt1)⟩
      case measure => simp [intOf]; omega
    · obtain rfl : k = vs.length := by omega
      have ho := HO.out
      rw [List.take_length] at ho
      have hss : ∀ b, SS vs b → b < w.heap.size := HR.out.lt
      have hsep : ∀ b, u.ownBlock = some b → ¬ SS vs b := fun b hb h => by
        have h1 := (ho.block b hb).1
        have h2 := hss b h
        omega
      have hgS : ¬ SS vs g := fun h => by have := hss g h; omega
      have HA := Lib.hid (apart_any g u vs f w2 HB.out hgS ho.slice (HR.out.below HW.out) HD.out hsep hn hf)
      clear ho hss hsep hgS
      go_wp2_with fail
      refine HA.out.mono ?_
      rintro e w3 ⟨rfl, h3, _⟩
      go_wp2_with fail
      go_ret
      exact ⟨rfl, (Only.of_below HW.out).trans h3 (fun _ _ h => h)⟩
end Go.Proofs.YtpnolgliklmnmaaGreat
/-! Rows of bytes in blocks of their own, for ApartBytes. -/
namespace Go.Agg
open Go.RowKit
section
variable {P : Program} {α : Type} {E : Elem P α}
/-- the blocks of two rows of slices are apart -/
def Cross (vs us : List SV) : Prop := ∀ b, SS vs b → ¬ SS us b
theorem Dist.append {vs us : List SV} (h : Dist vs) (k : Dist us) (hc : Cross vs us) : Dist (vs ++ us) := by
  have one : ∀ (i : Nat) (u : SV), (vs ++ us)[i]? = some u → (i < vs.length ∧ vs[i]? = some u) ∨ (vs.length ≤ i ∧ us[i - vs.length]? = some u) := fun i u h => by
    by_cases hi : i < vs.length
    · rw [List.getElem?_append_left hi] at h; exact .inl ⟨hi, h⟩
    · rw [List.getElem?_append_right (by omega)] at h; exact .inr ⟨by omega, h⟩
  intro i j u v hi hj hij b hu hv
  rcases one i u hi with ⟨h1, h2⟩ | ⟨h1, h2⟩ <;> rcases one j v hj with ⟨h3, h4⟩ | ⟨h3, h4⟩
  · exact h i j u v h2 h4 hij b hu hv
  · exact hc b ⟨_, u, h2, hu⟩ ⟨_, v, h4, hv⟩
  · exact hc b ⟨_, v, h4, hv⟩ ⟨_, u, h2, hu⟩
  · exact k _ _ u v h2 h4 (by omega) b hu hv
theorem ss_append {vs us : List SV} {b : Nat} (h : SS (vs ++ us) b) : SS vs b ∨ SS us b := by
  obtain ⟨i, u, hi, hb⟩ := h
  by_cases hl : i < vs.length
  · rw [List.getElem?_append_left hl] at hi; exact .inl ⟨i, u, hi, hb⟩
  · rw [List.getElem?_append_right (by omega)] at hi; exact .inr ⟨_, u, hi, hb⟩
theorem dist_one (v : SV) : Dist [v] := by
  intro i j u w hi hj hij
  match i, j, hi, hj with
  | 0, 0, _, _ => exact absurd rfl hij
  | 0, n + 1, _, hj => simp at hj
  | n + 1, _, hi, _ => simp at hi
theorem ss_one {v : SV} {b : Nat} (h : SS [v] b) : v.1.ownBlock = some b := by
  obtain ⟨i, u, hi, hb⟩ := h
  match i, hi with
  | 0, hi =>
    obtain rfl : v = u := by simpa using hi
    exact hb
/-- what is in rows, as a list -/
structure RoomsL (E : Elem P α) (w : World) (vs : List SV) (fs : List (List α)) : Prop where
  len : vs.length = fs.length
  row : ∀ (k : Nat) (v : SV) (l : List α), vs[k]? = some v → fs[k]? = some l → RoomN E w v.1 l
theorem RoomsL.of {w : World} {vs : List SV} {fs : List (List α)} (h : RoomsL E w vs fs) : RoomsOf E w vs fun k => (fs[k]?).getD [] := fun k v hk => by
  obtain ⟨l, hl⟩ : ∃ l, fs[k]? = some l := ⟨_, List.getElem?_eq_getElem (by rw [← h.len]; exact (List.getElem?_eq_some_iff.1 hk).1)⟩
  show RoomN E w v.1 ((fs[k]?).getD [])
  rw [hl]
  exact h.row k v l hk hl
theorem RoomsL.append {w : World} {vs us : List SV} {fs gs : List (List α)} (h : RoomsL E w vs fs) (k : RoomsL E w us gs) : RoomsL E w (vs ++ us) (fs ++ gs) := by
  have h1 := h.len
  refine ⟨by simp [h.len, k.len], fun i s l hs hl => ?_⟩
  by_cases hi : i < vs.length
  · rw [List.getElem?_append_left hi] at hs
    rw [List.getElem?_append_left (by omega)] at hl
    exact h.row i s l hs hl
  · rw [List.getElem?_append_right (by omega)] at hs hl
    rw [show i - fs.length = i - vs.length by omega] at hl
    exact k.row _ s l hs hl
theorem RoomsL.one {w : World} {v : SV} {l : List α} (h : RoomN E w v.1 l) : RoomsL E w [v] [l] := ⟨rfl, fun k u m hk hm => by
  match k, hk, hm with
  | 0, hk, hm =>
    obtain rfl : v = u := by simpa using hk
    obtain rfl : l = m := by simpa using hm
    exact h⟩
end
end Go.Agg
namespace Go.Proofs.YtpnolgliklmnmaaGreat
open Go.RowKit Pl Go.Agg
theorem RowsOwn.rooms {base : Nat} {w : World} {vs : List SV} {ls : List (List UInt8)} (h : RowsOwn base w vs ls) : RoomsL EB w vs ls := ⟨h.len, fun k s l h1 h2 => RoomN.of_own (h.row k s l h1 h2)⟩
section
variable {ops : Array Oper} {rest : List Oper} {o : Oper} {a : Act} {w : World} {Q : Exit → Act → World → Prop}
/-- '[][]byte{a, b, c, d}' -/
theorem wpList_rows4 (hg : Region.wanted o (yielded ops a.tmps) = true) (x1 x2 x3 x4 : Operand) (ho : o.op = .buildSlice 42 4 #[(0, x1), (1, x2), (2, x3), (3, x4)]) (s1 s2 s3 s4 : SV) (h1 : a.eval x1 = s1.1) (h2 : a.eval x2 = s2.1) (h3 : a.eval x3 = s3.1) (h4 : a.eval x4 = s4.1)
    (h : ∀ v' w', Own EBB w.heap.size w' v' [s1, s2, s3, s4] → Below w.heap.size w w' → wpList Tryz.prog ops Q rest (a.put o.dst v') w') : wpList Tryz.prog ops Q (o :: rest) a w := by
  obtain ⟨v1, p1, n1, c1, rfl⟩ := s1
  obtain ⟨v2, p2, n2, c2, rfl⟩ := s2
  obtain ⟨v3, p3, n3, c3, rfl⟩ := s3
  obtain ⟨v4, p4, n4, c4, rfl⟩ := s4
  have hb : (Instr.buildSlice 42 4 #[(0, .slice p1 n1 c1), (1, .slice p2 n2 c2), (2, .slice p3 n3 c3), (3, .slice p4 n4 c4)]).run Tryz.prog w = .ok (.slice (some ⟨w.heap.size, 0, none⟩) 4 4) (w.alloc (.cells #[.slice p1 n1 c1, .slice p2 n2 c2, .slice p3 n3 c3, .slice p4 n4 c4] 23)) := by kernel_rfl
  refine wpList_valw hg (v := .slice (some ⟨w.heap.size, 0, none⟩) 4 4) (w' := w.alloc (.cells #[.slice p1 n1 c1, .slice p2 n2 c2, .slice p3 n3 c3, .slice p4 n4 c4] 23)) (by simp [execOp, ho, h1, h2, h3, h4, hb]) (h _ _ ?_ ((Below.refl _ _).alloc (Nat.le_refl _) _))
  exact ⟨rfl, .inr ⟨w.heap.size, 4, #[.slice p1 n1 c1, .slice p2 n2 c2, .slice p3 n3 c3, .slice p4 n4 c4], rfl, Nat.le_refl _, heap_alloc_new w _, Nat.le_refl _, by decide, rfl, rfl⟩⟩
end
theorem sliceOf_lent {base : Nat} {w : World} {u : Value} {l : List UInt8} (h : Lent EB (marks 1 12) base w u l) : BytesAt w u l := by
  obtain ⟨g, cap, rfl, _, _, hs⟩ := h
  exact sliceOf_prefix hs
theorem lent_below {base : Nat} {w w' : World} {u : Value} {l : List UInt8} (h : Lent EB (marks 1 12) base w u l) (hb : Below w.heap.size w w') : Lent EB (marks 1 12) base w' u l := by
  obtain ⟨g, cap, rfl, h1, h2, hs⟩ := h
  exact ⟨g, cap, rfl, h1, h2, hs.below hb⟩
theorem own_sv {base : Nat} {w : World} {v : Value} {l : List UInt8} (h : Own EB base w v l) : ∃ s : SV, v = s.1 := by
  obtain ⟨p, c, hf⟩ := h.slice.form
  exact ⟨⟨v, p, _, c, hf⟩, rfl⟩
theorem own_in {base : Nat} {w : World} {v : Value} {l : List UInt8} (h : Own EB base w v l) : ∀ k, v.ownBlock = some k → base ≤ k ∧ k < w.heap.size := fun k hk => by
  obtain ⟨h1, cur, hc⟩ := h.block k hk
  exact ⟨h1, Agg.heap_lt hc⟩
theorem Rest.keepT {base : Nat} {w w' : World} {v : Value} {r : List UInt8} (h : Rest base w v r) (hk : ∀ (g : Nat) (cur : Array Value) (fr : Nat × Nat), w.heap[g]? = some (Obj.cells cur 5 fr) → w'.heap[g]? = some (Obj.cells cur 5 fr)) : Rest base w' v r := by
  rcases h with h | ⟨g, off, cap, cs, rfl, hle, hg, hb, hc⟩
  · exact .inl h
  · exact .inr ⟨g, off, cap, cs, rfl, hle, hg, hk g cs _ hb, hc⟩
end Go.Proofs.YtpnolgliklmnmaaGreat
/-! spencekit.LentRequest, KeptRequest. -/
namespace Go.Proofs.YtpnolgliklmnmaaGreat
open Go.RowKit Pl Go.Agg
theorem lent_onlyB {S : Nat → Prop} {base : Nat} {w w' : World} {u : Value} {l : List UInt8} (h : Lent EB (marks 1 12) base w u l) (ho : Only S w w') (hS : ∀ b, u.ownBlock = some b → ¬ S b) : Lent EB (marks 1 12) base w' u l := by
  obtain ⟨g, cap, rfl, h1, h2, hs⟩ := h
  exact ⟨g, cap, rfl, h1, h2, hs.onlyS ho fun b hb => hS b hb⟩
theorem lent_lower {base b' : Nat} {w : World} {u : Value} {l : List UInt8} (h : Lent EB (marks 1 12) base w u l) (hb : b' ≤ base) : Lent EB (marks 1 12) b' w u l := by
  obtain ⟨g, cap, rfl, h1, h2, hs⟩ := h
  exact ⟨g, cap, rfl, Nat.le_trans hb h1, h2, hs⟩
theorem lent_form {base : Nat} {w : World} {u : Value} {l : List UInt8} (h : Lent EB (marks 1 12) base w u l) : ∃ g cap, u = .slice (some ⟨g, 0, none⟩) l.length cap ∧ base ≤ g := by
  obtain ⟨g, cap, rfl, h1, _⟩ := h
  exact ⟨g, cap, rfl, h1⟩
set_option maxRecDepth 100000 in
set_option maxHeartbeats 1000000 in
theorem lentReq_any (k u wh : Int) (nm : List UInt8) (vb : Value) (bs ph pn ch : List UInt8) (hl : ph.length = 20) (hc : ch.length = 20) (hbs : bs.length ≤ 1048576) (w : World) (hb : BytesAt w vb bs) :
    Calls Tryz.prog 7 #[.agg (rqG k u wh nm vb ph pn ch)] w fun e w' => ∃ ub, e = .returned (.agg (rqG k u wh nm ub ph pn ch)) ∧ Below w.heap.size w w' ∧ Lent EB (marks 1 12) w.heap.size w' ub bs := by
  have HVB := Lib.hid hb
  clear hb
  go_enter Tryz.func7, Tryz.ntmps7
  go_wp2_with (first | (with_reducible refine Agg.wpList_box rfl 29 _ rfl (rqG k u wh nm vb ph pn ch) rfl ?_; intro g w1 hb1 hx1 hg1) | (with_reducible refine Agg.wpList_zero rfl 29 rfl (rqG 0 0 0 [] (.slice none 0 0) z20 [] z20) rq_zero ?_; intro g2 w2 hb2 hx2 hg2) | (with_reducible refine Agg.wpList_loadL (RqG.of_blk (hb1.below hx2) hl hc).bytes rfl _ rfl rfl ?_))
  have hw2 := Agg.belowThen hx1 (Nat.le_refl _) hx2
  have hlg := hb1.lt
  have hlg2 := hb2.lt
  have hsz1 := hx1.size
  refine (lentBytes_any _ bs hbs w2 (HVB.out.below hw2)).mono ?_
  rintro e w3 ⟨ub, rfl, hx3, hl3⟩
  have hw3 := Agg.belowThen hw2 (Nat.le_refl _) hx3
  obtain ⟨gu, cu, hu, hgu⟩ := lent_form hl3
  have hsz2 := hx2.size
  have hsz3 := hx3.size
  obtain ⟨w4, hrun, hb4, ho4⟩ := rqB_bytes ((hb1.below hx2).below hx3) ub (by rw [hu]; rfl) (by rw [hu]; rfl)
  have hl4 := lent_onlyB hl3 ho4 (fun b hb h => by have h : b = g := h; rw [hu] at hb; simp only [Value.ownBlock, Option.some.injEq] at hb; omega)
  have hb24 := (hb2.below hx3).only ho4 (fun h => by have h : g2 = g := h; omega)
  have hw4 : Below w.heap.size w w4 := hw3.trans (ho4.below (B := w.heap.size) (by omega) (fun i hi => by have hi : i = g := hi; omega))
  have HW4 := Lib.hid hw4
  have HL4 := Lib.hid hl4
  have HB4 := Lib.hid (RqG.of_blk hb4 hl hc)
  have hone := rq_one (sliceOf_lent hl4) k u wh nm ph pn ch
  have hlg24 := hb24.lt
  clear hl3 hl4 hu hb4 hx1 hx2 hx3 hw2 hw3 hw4
  go_wp2_with (first | (with_reducible refine Agg.wpList_store rfl rfl 23 _ _ rfl (.pointer (some ⟨g, 4, none⟩)) ub rfl rfl hrun ?_) | (with_reducible refine Agg.wpList_loadL HB4.out.all rfl _ rfl rfl ?_) | (with_reducible refine Agg.wpList_put rfl rfl 29 _ _ rfl g2 (rqG k u wh nm ub ph pn ch) (rqG 0 0 0 [] (.slice none 0 0) z20 [] z20) rfl rfl hb24 (rq_info hl hc) (by rw [rqG_size hl hc, rqG_size z20_length z20_length]) hone ?_; intro w7 hb7 hx7 hz7 hk7))
  have ho7 : Only (· = g2) w4 w7 := ⟨hx7.os, hx7.tape, hx7.output, by omega, fun k _ hk => hk7 k hk⟩
  refine Agg.post_row rfl rfl hb7 rq_under rfl (rq_info hl hc) rfl ⟨_, rfl, HW4.out.trans (hx7.mono (by omega)), lent_lower (lent_onlyB HL4.out ho7 ?_) (by omega)⟩
  intro b hb h
  have h : b = g2 := h
  obtain ⟨gu, cu, hu, hgu⟩ := lent_form HL4.out
  rw [hu] at hb
  simp only [Value.ownBlock, Option.some.injEq] at hb
  omega
set_option maxRecDepth 100000 in
set_option maxHeartbeats 1000000 in
theorem keptReq_any (k u wh : Int) (nm : List UInt8) (ub vb : Value) (bs ph pn ch : List UInt8) (hl : ph.length = 20) (hc : ch.length = 20) (hbs : bs.length ≤ 1048576) (base : Nat) (w : World) (hu : Lent EB (marks 1 12) base w ub bs) (hv : BytesAt w vb bs) :
    Calls Tryz.prog 18 #[.agg (rqG k u wh nm ub ph pn ch), .agg (rqG k u wh nm vb ph pn ch)] w fun e w' => e = .returned (.bool true) ∧ Below w.heap.size w w' := by
  have hsame : ∀ W, Below w.heap.size w W → Calls Tryz.prog 16 #[.agg (rqG k u wh nm ub ph pn ch), .agg (rqG k u wh nm vb ph pn ch)] W fun e w' => e = .returned (.bool true) ∧ Below W.heap.size W w' := fun W hW => by
    have := sameRq_any k u wh nm ub bs ph pn ch hl hc k u wh nm vb bs ph pn ch hl hc hbs hbs W ((sliceOf_lent hu).below hW) (hv.below hW)
    rwa [(sameRq_eq _ _).2 rfl] at this
  have HSAME := Lib.hid hsame
  have hkb : ∀ W, Below w.heap.size w W → Calls Tryz.prog 19 #[ub, vb] W fun e w' => e = .returned (.bool true) ∧ Below W.heap.size W w' := fun W hW => keptBytes_any ub vb bs hbs base W (lent_below hu hW) (hv.below hW)
  have HKB := Lib.hid hkb
  clear hsame hkb hu hv
  go_enter Tryz.func18, Tryz.ntmps18
  go_wp2_with (first | (with_reducible refine Agg.wpList_box rfl 29 _ rfl (rqG k u wh nm ub ph pn ch) rfl ?_; intro g w1 hb hx1 hg) | (with_reducible refine Agg.wpList_box rfl 29 _ rfl (rqG k u wh nm vb ph pn ch) rfl ?_; intro g2 w2 hb2 hx2 hg2) | (with_reducible refine Agg.wpList_loadL (RqG.of_blk (hb.below hx2) hl hc).all rfl _ rfl rfl ?_) | (with_reducible refine Agg.wpList_loadL (RqG.of_blk hb2 hl hc).all rfl _ rfl rfl ?_))
  have hw2 := Agg.belowThen hx1 (Nat.le_refl _) hx2
  have HW2 := Lib.hid hw2
  have HB1 := Lib.hid (RqG.of_blk (hb.below hx2) hl hc)
  have HB2 := Lib.hid (RqG.of_blk hb2 hl hc)
  clear hb hb2 hx1 hx2 hg hg2 hw2
  refine (HSAME.out _ HW2.out).mono ?_
  rintro e w3 ⟨rfl, hx3⟩
  have hw3 := Agg.belowThen HW2.out (Nat.le_refl _) hx3
  have HB13 := Lib.hid (HB1.out.below hx3)
  have HB23 := Lib.hid (HB2.out.below hx3)
  go_wp2_with (first | (with_reducible refine Agg.wpList_loadL HB13.out.bytes rfl _ rfl rfl ?_) | (with_reducible refine Agg.wpList_loadL HB23.out.bytes rfl _ rfl rfl ?_))
  refine (HKB.out _ hw3).mono ?_
  rintro e w5 ⟨rfl, hx5⟩
  have hw5 := Agg.belowThen hw3 (Nat.le_refl _) hx5
  go_wp2_with fail
  go_ret
  exact ⟨rfl, hw5⟩
end Go.Proofs.YtpnolgliklmnmaaGreat
