/- spencekit.KeptBytes. (Several texts in one.) -/
import Derived.Test.YtpnolgliklmnmaaGreatQAW
import Derived.Test.YtpnolgliklmnmaaGreatQAY
import Derived.Test.YtpnolgliklmnmaaGreatQAZ
import Derived.Test.YtpnolgliklmnmaaGreatQAE
import Derived.Test.YtpnolgliklmnmaaGreatQAP
import Derived.Test.YtpnolgliklmnmaaGreatQAN
import Derived.Test.YtpnolgliklmnmaaGreatQAU
import Derived.Test.YtpnolgliklmnmaaGreatQAD
import Derived.Test.YtpnolgliklmnmaaGreatQAV
/-! (*spencekit.bag).apart of rows of paths and rows of replies. -/
namespace Go.Proofs.YtpnolgliklmnmaaGreat
open Go.RowKit Pl Go.Agg
theorem flatBytes_nil (w : World) : Calls Tryz.prog 100 #[.slice none 0 0] w fun e w' => e = .returned (.bool true) ∧ Below w.heap.size w w' := by
  refine (flatBytes_any (.slice none 0 0) [] (fun _ => []) w (SliceOf.nil _ _ _) (fun k v h => by simp at h) (fun i j u v h => by simp at h) (fun b h => by simp [Value.ownBlock] at h) (by simp) (fun _ => by simp)).mono ?_
  rintro e w' ⟨rfl, ho, _⟩
  exact ⟨rfl, (ho.mono (T := fun _ => False) fun b _ h => by obtain ⟨i, u, hi, _⟩ := h; simp at hi).below (Nat.le_refl _) fun _ h => h.elim⟩
def bagR (vp vr : Value) : Array Value := #[.slice none 0 0, .slice none 0 0, .slice none 0 0, .slice none 0 0, .slice none 0 0, .slice none 0 0, .slice none 0 0, vp, .slice none 0 0, .slice none 0 0, .slice none 0 0, .slice none 0 0, .slice none 0 0, .slice none 0 0, .slice none 0 0, .slice none 0 0, .slice none 0 0, .slice none 0 0, .slice none 0 0, .slice none 0 0, vr]
/-- what apart may do -/
def ApR (w : World) (vs us : List SV) (f : Nat → List P20) (g : Nat → List RpE) (w' : World) : Prop := Only (fun b => SS vs b ∨ SS us b) w w' ∧ (∃ f', RoomsOf E20 w' vs f' ∧ ∀ j, (f' j).length = (f j).length) ∧ ∃ g', RoomsOf ER w' us g' ∧ ∀ j, (g' j).length = (g j).length
theorem ApR.below {w : World} {vs us : List SV} {f : Nat → List P20} {g : Nat → List RpE} (a b : World) (h : ApR w vs us f g a) (hb : Below a.heap.size a b) : ApR w vs us f g b := by
  obtain ⟨h1, ⟨f', h2, h3⟩, g', h4, h5⟩ := h
  exact ⟨h1.trans (Only.of_below (S := fun _ => False) hb) (fun _ _ h => h.elim), ⟨f', h2.below hb, h3⟩, g', h4.below hb, h5⟩
set_option maxRecDepth 100000 in
set_option maxHeartbeats 4000000 in
theorem apartR_any (b : Nat) (vp vr : Value) (vs us : List SV) (f : Nat → List P20) (g : Nat → List RpE) (w : World) (hg : Blk w b 124 (bagR vp vr)) (hgS : ¬ (SS vs b ∨ SS us b)) (hp : SliceOf EPP w vp vs) (hq : SliceOf ERR w vr us) (hr : RoomsOf E20 w vs f) (hs : RoomsOf ER w us g) (hd : Dist vs) (he : Dist us)
    (hx : ∀ b, SS us b → ¬ SS vs b) (hsp : ∀ b, vp.ownBlock = some b → ¬ (SS vs b ∨ SS us b)) (hsr : ∀ b, vr.ownBlock = some b → ¬ (SS vs b ∨ SS us b)) (hn : vs.length ≤ 4194304) (hm : us.length ≤ 4194304) (hf : ∀ j, (f j).length ≤ 8388608) (hgl : ∀ j, (g j).length ≤ 8388608) :
    Calls Tryz.prog 69 #[.pointer (some ⟨b, 0, none⟩)] w fun e w' => e = .returned (.bool true) ∧ ApR w vs us f g w' := by
  have hld : ∀ (k : Nat) (v : Value) (ty : TypeId) (d : TypeDesc), (bagR vp vr)[k]? = some v → Tryz.prog.underlying ty = some d → (match d with | .struct _ | .array _ _ => true | _ => false) = false →
      ∀ w', ApR w vs us f g w' → LoadsL Tryz.prog w' ty (some ⟨b, k, none⟩) v := by
    intro k v ty d hk hu hd w' hx
    have hb : Blk w' b 124 (bagR vp vr) := (hx.1.block b hg.lt hgS).trans hg
    exact hb.one (P := Tryz.prog) k hk hu (by cases d <;> first | rfl | cases hd)
  have HLD := Lib.hid hld
  clear hld
  have HCC : Hid (∀ a b, ApR w vs us f g a → Below a.heap.size a b → ApR w vs us f g b) := Lib.hid ApR.below
  have HCP : Hid (∀ x : Cls (ApR w vs us f g), Calls Tryz.prog 102 #[vp] x.w fun e w' => e = .returned (.bool true) ∧ ApR w vs us f g w') := Lib.hid (fun x => by
    obtain ⟨x, h1, ⟨f', h2, h3⟩, g', h4, h5⟩ := x
    refine (flatPaths_any vp vs f' x (SliceOf.onlyS hp h1 hsp) h2 hd (fun b hb h => hsp b hb (.inl h)) hn (fun j => by rw [h3]; exact hf j)).mono ?_
    rintro e w' ⟨rfl, h6, f2, h7, h8⟩
    exact ⟨rfl, h1.trans h6 (fun _ _ h => .inl h), ⟨f2, h7, fun j => by rw [h8, h3]⟩, g', h4.only h6 hx, h5⟩)
  have HCR : Hid (∀ x : Cls (ApR w vs us f g), Calls Tryz.prog 115 #[vr] x.w fun e w' => e = .returned (.bool true) ∧ ApR w vs us f g w') := Lib.hid (fun x => by
    obtain ⟨x, h1, ⟨f', h2, h3⟩, g', h4, h5⟩ := x
    refine (flatReplies_any vr us g' x (SliceOf.onlyS hq h1 hsr) h4 he (fun b hb h => hsr b hb (.inr h)) hm (fun j => by rw [h5]; exact hgl j)).mono ?_
    rintro e w' ⟨rfl, h6, f2, h7, h8⟩
    exact ⟨rfl, h1.trans h6 (fun _ _ h => .inr h), ⟨f', h2.only h6 (fun b hb h => hx b h hb), h3⟩, f2, h7, fun j => by rw [h8, h5]⟩)
  have h0 : ApR w vs us f g w := ⟨Only.refl _ _, ⟨f, hr, fun _ => rfl⟩, g, hs, fun _ => rfl⟩
  have HC := Lib.hid h0
  clear h0 hr hs hd he hx hsp hsr hf hgl hp hq hg
  go_enter Tryz.func69, Tryz.ntmps69
  simp only [List.append_eq, List.cons_append, List.nil_append]
  have HL := Lib.hid (HLD.out 0 (.slice none 0 0) 104 _ rfl Tryz.underlying104 rfl _ HC.out)
  go_wp2_with (first | (with_reducible refine Agg.wpList_loadL HL.out rfl _ rfl rfl ?_))
  clear HL
  refine (flatLimbs_nil _).mono ?_
  rintro e w1 ⟨rfl, h1⟩
  have HC := Lib.hid (HCC.out _ _ HC.out h1)
  clear h1
  have HL := Lib.hid (HLD.out 1 (.slice none 0 0) 105 _ rfl Tryz.underlying105 rfl _ HC.out)
  go_wp2_with (first | (with_reducible refine Agg.wpList_loadL HL.out rfl _ rfl rfl ?_))
  clear HL
  refine (flatWords_nil _).mono ?_
  rintro e w2 ⟨rfl, h2⟩
  have HC := Lib.hid (HCC.out _ _ HC.out h2)
  clear h2
  have HL := Lib.hid (HLD.out 2 (.slice none 0 0) 106 _ rfl Tryz.underlying106 rfl _ HC.out)
  go_wp2_with (first | (with_reducible refine Agg.wpList_loadL HL.out rfl _ rfl rfl ?_))
  clear HL
  refine (flatInts_nil _).mono ?_
  rintro e w3 ⟨rfl, h3⟩
  have HC := Lib.hid (HCC.out _ _ HC.out h3)
  clear h3
  have HL := Lib.hid (HLD.out 3 (.slice none 0 0) 107 _ rfl Tryz.underlying107 rfl _ HC.out)
  go_wp2_with (first | (with_reducible refine Agg.wpList_loadL HL.out rfl _ rfl rfl ?_))
  clear HL
  refine (flatLongs_nil _).mono ?_
  rintro e w4 ⟨rfl, h4⟩
  have HC := Lib.hid (HCC.out _ _ HC.out h4)
  clear h4
  have HL := Lib.hid (HLD.out 4 (.slice none 0 0) 108 _ rfl Tryz.underlying108 rfl _ HC.out)
  go_wp2_with (first | (with_reducible refine Agg.wpList_loadL HL.out rfl _ rfl rfl ?_))
  clear HL
  refine (flatTexts_nil _).mono ?_
  rintro e w5 ⟨rfl, h5⟩
  have HC := Lib.hid (HCC.out _ _ HC.out h5)
  clear h5
  have HL := Lib.hid (HLD.out 5 (.slice none 0 0) 42 _ rfl Tryz.underlying42 rfl _ HC.out)
  go_wp2_with (first | (with_reducible refine Agg.wpList_loadL HL.out rfl _ rfl rfl ?_))
  clear HL
  refine (flatBytes_nil _).mono ?_
  rintro e w6 ⟨rfl, h6⟩
  have HC := Lib.hid (HCC.out _ _ HC.out h6)
  clear h6
  have HL := Lib.hid (HLD.out 6 (.slice none 0 0) 109 _ rfl Tryz.underlying109 rfl _ HC.out)
  go_wp2_with (first | (with_reducible refine Agg.wpList_loadL HL.out rfl _ rfl rfl ?_))
  clear HL
  refine (flatTruths_nil _).mono ?_
  rintro e w7 ⟨rfl, h7⟩
  have HC := Lib.hid (HCC.out _ _ HC.out h7)
  clear h7
  have HL := Lib.hid (HLD.out 7 (vp) 110 _ rfl Tryz.underlying110 rfl _ HC.out)
  go_wp2_with (first | (with_reducible refine Agg.wpList_loadL HL.out rfl _ rfl rfl ?_))
  clear HL
  refine (HCP.out ⟨_, HC.out⟩).mono ?_
  rintro e w8 ⟨rfl, h8⟩
  have HC := Lib.hid h8
  clear h8
  have HL := Lib.hid (HLD.out 8 (.slice none 0 0) 111 _ rfl Tryz.underlying111 rfl _ HC.out)
  go_wp2_with (first | (with_reducible refine Agg.wpList_loadL HL.out rfl _ rfl rfl ?_))
  clear HL
  refine (flatKids_nil _).mono ?_
  rintro e w9 ⟨rfl, h9⟩
  have HC := Lib.hid (HCC.out _ _ HC.out h9)
  clear h9
  have HL := Lib.hid (HLD.out 9 (.slice none 0 0) 112 _ rfl Tryz.underlying112 rfl _ HC.out)
  go_wp2_with (first | (with_reducible refine Agg.wpList_loadL HL.out rfl _ rfl rfl ?_))
  clear HL
  refine (flatNodes_nil _).mono ?_
  rintro e w10 ⟨rfl, h10⟩
  have HC := Lib.hid (HCC.out _ _ HC.out h10)
  clear h10
  have HL := Lib.hid (HLD.out 10 (.slice none 0 0) 113 _ rfl Tryz.underlying113 rfl _ HC.out)
  go_wp2_with (first | (with_reducible refine Agg.wpList_loadL HL.out rfl _ rfl rfl ?_))
  clear HL
  refine (flatLines_nil _).mono ?_
  rintro e w11 ⟨rfl, h11⟩
  have HC := Lib.hid (HCC.out _ _ HC.out h11)
  clear h11
  have HL := Lib.hid (HLD.out 11 (.slice none 0 0) 114 _ rfl Tryz.underlying114 rfl _ HC.out)
  go_wp2_with (first | (with_reducible refine Agg.wpList_loadL HL.out rfl _ rfl rfl ?_))
  clear HL
  refine (flatChanges_nil _).mono ?_
  rintro e w12 ⟨rfl, h12⟩
  have HC := Lib.hid (HCC.out _ _ HC.out h12)
  clear h12
  have HL := Lib.hid (HLD.out 12 (.slice none 0 0) 115 _ rfl Tryz.underlying115 rfl _ HC.out)
  go_wp2_with (first | (with_reducible refine Agg.wpList_loadL HL.out rfl _ rfl rfl ?_))
  clear HL
  refine (flatRuns_nil _).mono ?_
  rintro e w13 ⟨rfl, h13⟩
  have HC := Lib.hid (HCC.out _ _ HC.out h13)
  clear h13
  have HL := Lib.hid (HLD.out 13 (.slice none 0 0) 116 _ rfl Tryz.underlying116 rfl _ HC.out)
  go_wp2_with (first | (with_reducible refine Agg.wpList_loadL HL.out rfl _ rfl rfl ?_))
  clear HL
  refine (flatObjects_nil _).mono ?_
  rintro e w14 ⟨rfl, h14⟩
  have HC := Lib.hid (HCC.out _ _ HC.out h14)
  clear h14
  have HL := Lib.hid (HLD.out 14 (.slice none 0 0) 117 _ rfl Tryz.underlying117 rfl _ HC.out)
  go_wp2_with (first | (with_reducible refine Agg.wpList_loadL HL.out rfl _ rfl rfl ?_))
  clear HL
  refine (flatQuotas_nil _).mono ?_
  rintro e w15 ⟨rfl, h15⟩
  have HC := Lib.hid (HCC.out _ _ HC.out h15)
  clear h15
  have HL := Lib.hid (HLD.out 15 (.slice none 0 0) 118 _ rfl Tryz.underlying118 rfl _ HC.out)
  go_wp2_with (first | (with_reducible refine Agg.wpList_loadL HL.out rfl _ rfl rfl ?_))
  clear HL
  refine (flatNameds_nil _).mono ?_
  rintro e w16 ⟨rfl, h16⟩
  have HC := Lib.hid (HCC.out _ _ HC.out h16)
  clear h16
  have HL := Lib.hid (HLD.out 16 (.slice none 0 0) 119 _ rfl Tryz.underlying119 rfl _ HC.out)
  go_wp2_with (first | (with_reducible refine Agg.wpList_loadL HL.out rfl _ rfl rfl ?_))
  clear HL
  refine (flatDrvs_nil _).mono ?_
  rintro e w17 ⟨rfl, h17⟩
  have HC := Lib.hid (HCC.out _ _ HC.out h17)
  clear h17
  have HL := Lib.hid (HLD.out 17 (.slice none 0 0) 120 _ rfl Tryz.underlying120 rfl _ HC.out)
  go_wp2_with (first | (with_reducible refine Agg.wpList_loadL HL.out rfl _ rfl rfl ?_))
  clear HL
  refine (flatMades_nil _).mono ?_
  rintro e w18 ⟨rfl, h18⟩
  have HC := Lib.hid (HCC.out _ _ HC.out h18)
  clear h18
  have HL := Lib.hid (HLD.out 18 (.slice none 0 0) 121 _ rfl Tryz.underlying121 rfl _ HC.out)
  go_wp2_with (first | (with_reducible refine Agg.wpList_loadL HL.out rfl _ rfl rfl ?_))
  clear HL
  refine (flatBuilts_nil _).mono ?_
  rintro e w19 ⟨rfl, h19⟩
  have HC := Lib.hid (HCC.out _ _ HC.out h19)
  clear h19
  have HL := Lib.hid (HLD.out 19 (.slice none 0 0) 122 _ rfl Tryz.underlying122 rfl _ HC.out)
  go_wp2_with (first | (with_reducible refine Agg.wpList_loadL HL.out rfl _ rfl rfl ?_))
  clear HL
  refine (flatRequests_nil _).mono ?_
  rintro e w20 ⟨rfl, h20⟩
  have HC := Lib.hid (HCC.out _ _ HC.out h20)
  clear h20
  have HL := Lib.hid (HLD.out 20 (vr) 56 _ rfl Tryz.underlying56 rfl _ HC.out)
  go_wp2_with (first | (with_reducible refine Agg.wpList_loadL HL.out rfl _ rfl rfl ?_))
  clear HL
  refine (HCR.out ⟨_, HC.out⟩).mono ?_
  rintro e w21 ⟨rfl, h21⟩
  have HC := Lib.hid h21
  clear h21
  go_wp2_with fail
  go_ret
  exact ⟨rfl, HC.out⟩
end Go.Proofs.YtpnolgliklmnmaaGreat
/-! (*bag).putPaths, oneReply, putReplies; ApartReplies. -/
namespace Go.Proofs.YtpnolgliklmnmaaGreat
open Go.RowKit Pl Go.Agg
/-- a bag at g: rows of paths, rows of replies -/
structure BgR (g : Nat) (w : World) (vp vr : Value) (ps us : List SV) : Prop where
  blk : Blk w g 124 (bagR vp vr)
  paths : Own EPP (g + 1) w vp ps
  reps : Own ERR (g + 1) w vr us
theorem BgR.below {g : Nat} {w w' : World} {vp vr : Value} {ps us : List SV} (h : BgR g w vp vr ps us) (hb : Below w.heap.size w w') : BgR g w' vp vr ps us := ⟨h.blk.below hb, h.paths.below hb, h.reps.below hb⟩
theorem BgR.pushP {w w1 : World} {g : Nat} {vp vr v1 : Value} {ps us l : List SV} (h : BgR g w vp vr ps us) (ho : Own EPP (g + 1) w1 v1 l) (hp : Pushed EPP (g + 1) w w1 vp) :
    ∃ w2, (Instr.storeAt 110 (.pointer (some ⟨g, 7, none⟩)) v1).run Tryz.prog w1 = .ok () w2 ∧ BgR g w2 v1 vr l us ∧ Below g w w2 := by
  have h1 : Blk w1 g 124 (bagR vp vr) := hp.blk g _ _ _ (by decide) h.blk
  have hr : Own ERR (g + 1) w1 vr us := h.reps.keepT fun k cur fr hk => hp.blk k _ _ _ (by decide) hk
  obtain ⟨p, c, rfl⟩ := ho.slice.form
  refine ⟨_, h1.run_put 7 (by simp [bagR]) _ rfl rfl (by kernel_rfl), ⟨h1.set 7 _, ho.keep fun k cur t fr hk hb => ?_, hr.keep fun k cur t fr hk hb => ?_⟩, ?_⟩
  · rw [Below.heap_setCell _ _ _ _ (by show k ≠ g; omega)]; exact hb
  · rw [Below.heap_setCell _ _ _ _ (by show k ≠ g; omega)]; exact hb
  · exact (hp.below g (by omega) (Nat.le_of_lt h.blk.lt)).setCell (Nat.le_refl _) _
theorem BgR.pushR {w w1 : World} {g : Nat} {vp vr v1 : Value} {ps us l : List SV} (h : BgR g w vp vr ps us) (ho : Own ERR (g + 1) w1 v1 l) (hp : Pushed ERR (g + 1) w w1 vr) :
    ∃ w2, (Instr.storeAt 56 (.pointer (some ⟨g, 20, none⟩)) v1).run Tryz.prog w1 = .ok () w2 ∧ BgR g w2 vp v1 ps l ∧ Below g w w2 := by
  have h1 : Blk w1 g 124 (bagR vp vr) := hp.blk g _ _ _ (by decide) h.blk
  have hr : Own EPP (g + 1) w1 vp ps := h.paths.keepT fun k cur fr hk => hp.blk k _ _ _ (by decide) hk
  obtain ⟨p, c, rfl⟩ := ho.slice.form
  refine ⟨_, h1.run_put 20 (by simp [bagR]) _ rfl rfl (by kernel_rfl), ⟨h1.set 20 _, hr.keep fun k cur t fr hk hb => ?_, ho.keep fun k cur t fr hk hb => ?_⟩, ?_⟩
  · rw [Below.heap_setCell _ _ _ _ (by show k ≠ g; omega)]; exact hb
  · rw [Below.heap_setCell _ _ _ _ (by show k ≠ g; omega)]; exact hb
  · exact (hp.below g (by omega) (Nat.le_of_lt h.blk.lt)).setCell (Nat.le_refl _) _
set_option maxRecDepth 100000 in
set_option maxHeartbeats 1000000 in
theorem putPathsR_any (g : Nat) (vp vr : Value) (ps us : List SV) (x : SV) (w : World) (h : BgR g w vp vr ps us) (hn : ps.length ≤ 4194304) :
    Calls Tryz.prog 151 #[.pointer (some ⟨g, 0, none⟩), x.1] w fun e w' => (∃ r, e = .returned r) ∧ ∃ v', BgR g w' v' vr (ps ++ [x]) us ∧ Below g w w' := by
  have HL := Lib.hid (h.blk.one (P := Tryz.prog) 7 rfl (by kernel_rfl : Tryz.prog.underlying 110 = some (.slice 44)) rfl : LoadsL Tryz.prog w 110 (some ⟨g, 7, none⟩) vp)
  have HG := Lib.hid h
  have hlt := h.blk.lt
  have h63 : ps.length + 1 ≤ 1099511627776 / 8 := by omega
  have hbase : g + 1 ≤ w.heap.size := hlt
  clear h
  go_enter Tryz.func151, Tryz.ntmps151
  go_wp2_with (first | (with_reducible refine Agg.wpList_loadL HL.out rfl _ rfl rfl ?_) | (refine Agg.wpList_push (E := EPP) (base := g + 1) rfl rfl 10 rfl _ rfl _ rfl x rfl (fun _ => rfl) (by simp) HG.out.paths h63 (by decide) hbase ?_; intro u1 v1 w1 ho1 hp1; obtain ⟨w2, hrun, hfin⟩ := HG.out.pushP ho1 hp1; have HFIN := Lib.hid hfin; clear ho1 hp1 hfin) | (refine Agg.wpList_store rfl rfl 110 _ _ rfl (.pointer (some ⟨g, 7, none⟩)) _ rfl rfl hrun ?_))
  refine bodyPost_end (results_none rfl _ _ _) rfl ?_
  exact ⟨⟨_, rfl⟩, _, HFIN.out.1, HFIN.out.2⟩
set_option maxRecDepth 100000 in
set_option maxHeartbeats 1000000 in
theorem oneReply_any (g : Nat) (vp vr : Value) (ps us : List SV) (x : RpE) (w : World) (h : BgR g w vp vr ps us) (hn : ps.length ≤ 4194304) :
    Calls Tryz.prog 118 #[.pointer (some ⟨g, 0, none⟩), .agg x.cells] w fun e w' => (∃ r, e = .returned r) ∧ ∃ v', BgR g w' v' vr (ps ++ [x.pv]) us ∧ Below g w w' := by
  have HG := Lib.hid h
  have hgw := h.blk.lt
  have hl := x.hl
  have hc := x.hc
  clear h
  go_enter Tryz.func118, Tryz.ntmps118
  go_wp2_with (first | (refine Agg.wpList_box rfl 46 _ rfl (x.cells) rfl ?_; intro b w1 hb1 hx1 hgb; have HL := Lib.hid (RpG.of_blk (show Blk w1 b 46 (rpG x.e x.ph x.pn x.ch x.g x.pv.1 x.m) from hb1) hl hc); have HW := Lib.hid hx1; clear hb1 hx1 hgb) | (with_reducible refine Agg.wpList_loadL HL.out.paths rfl _ rfl rfl ?_))
  refine (putPathsR_any g vp vr ps us x.pv _ (HG.out.below HW.out) hn).mono ?_
  rintro e w2 ⟨⟨r, rfl⟩, v2, h2, hx2⟩
  have H2 := Lib.hid h2
  have HX2 := Lib.hid ((HW.out.mono (Nat.le_of_lt hgw)).trans hx2)
  clear h2 hx2
  go_wp2_with fail
  refine bodyPost_end (results_none rfl _ _ _) rfl ?_
  exact ⟨⟨_, rfl⟩, _, H2.out, HX2.out⟩
set_option maxRecDepth 100000 in
set_option maxHeartbeats 2000000 in
theorem putReplies_any (g : Nat) (vp vr : Value) (ps us : List SV) (x : SV) (l : List RpE) (w0 w : World) (h : BgR g w vp vr ps us) (hg0 : w0.heap.size ≤ g) (hw0 : Below w0.heap.size w0 w) (hx : SliceOf ER w0 x.1 l) (hn : ps.length + l.length ≤ 4194304) (hm : us.length ≤ 4194304) :
    Calls Tryz.prog 74 #[.pointer (some ⟨g, 0, none⟩), x.1] w fun e w' => (∃ r, e = .returned r) ∧ ∃ v' u', BgR g w' v' u' (ps ++ l.map RpE.pv) (us ++ [x]) ∧ Below g w w' := by
  have HL := Lib.hid (h.blk.one (P := Tryz.prog) 20 rfl (by kernel_rfl : Tryz.prog.underlying 56 = some (.slice 55)) rfl : LoadsL Tryz.prog w 56 (some ⟨g, 20, none⟩) vr)
  have HG := Lib.hid h
  have HX := Lib.hid hx
  have HW0 := Lib.hid hw0
  have hlx := fun W => xlen_R hx W
  have hlt := h.blk.lt
  have h63 : us.length + 1 ≤ 1099511627776 / 8 := by omega
  have hbase : g + 1 ≤ w.heap.size := hlt
  clear h hx hw0
  go_enter Tryz.func74, Tryz.ntmps74
  go_wp2_with (first | (with_reducible refine Agg.wpList_loadL HL.out rfl _ rfl rfl ?_) | (refine Agg.wpList_push (E := ERR) (base := g + 1) rfl rfl 11 rfl _ rfl _ rfl x rfl (fun _ => rfl) (by simp) HG.out.reps h63 (by decide) hbase ?_; intro u1 v1 w1 ho1 hp1; obtain ⟨w2, hrun, hfin⟩ := HG.out.pushR ho1 hp1; have HFIN := Lib.hid hfin; clear ho1 hp1 hfin) | (refine Agg.wpList_store rfl rfl 56 _ _ rfl (.pointer (some ⟨g, 20, none⟩)) _ rfl rfl hrun ?_))
  go_loopw [4] (fun i wr => ∃ (k : Nat) (v' : Value), k ≤ l.length ∧ i = .int .i64 k ∧ BgR g wr v' v1 (ps ++ (l.take k).map RpE.pv) (us ++ [x]) ∧ Below g w wr) (fun i _ => l.length - (intOf i).toNat)
  case atStart => exact ⟨0, _, by omega, rfl, by simpa using HFIN.out.1, HFIN.out.2⟩
  case round =>
    obtain ⟨w3, rfl⟩ : ∃ w3 : World, w3 = wr := ⟨_, rfl⟩
    obtain ⟨k, v', hk, rfl, hb, hw⟩ := hrel
    have HB := Lib.hid hb
    have HW := Lib.hid hw
    have HWW := Lib.hid (HW0.out.trans (hw.mono hg0))
    have hkl : ((l.take k).map RpE.pv).length ≤ k := by rw [List.length_map]; exact List.length_take_le _ _
    clear hb hw
    by_cases hlt : k < l.length
    · obtain ⟨y, hyk⟩ : ∃ y, l[k]? = some y := ⟨_, List.getElem?_eq_getElem hlt⟩
      obtain ⟨q, hadr, hld⟩ := xat_R (SliceOf.below HX.out HWW.out) k y hyk
      have HLY := Lib.hid (show LoadsL Tryz.prog _ 46 (some q) (.agg y.cells) from hld)
      have HYK := Lib.hid hyk
      clear hld hyk
      go_wp2_with (first | (with_reducible refine Agg.wpList_loadL HLY.out rfl _ rfl rfl ?_))
      refine (oneReply_any g v' v1 _ (us ++ [x]) y _ HB.out (by rw [List.length_append]; omega)).mono ?_
      rintro e w4 ⟨⟨r, rfl⟩, v4, h4, hx4⟩
      have ht : (ps ++ (l.take k).map RpE.pv) ++ [y.pv] = ps ++ (l.take (k + 1)).map RpE.pv := by rw [List.take_add_one, HYK.out, List.append_assoc]; simp
      rw [ht] at h4
      have H4 := Lib.hid h4
      have HX4 := Lib.hid (HW.out.trans hx4)
      clear h4 hx4 ht
      go_wp2_with fail
      go_roundw
      case rel => exact ⟨k + 1, v4, by omega, by go_num, H4.out, HX4.out⟩
      case measure => simp [intOf]; omega
    · obtain rfl : k = l.length := by omega
      rw [List.take_length] at HB
      go_wp2_with fail
      refine bodyPost_end (results_none rfl _ _ _) rfl ?_
      exact ⟨⟨_, rfl⟩, _, _, HB.out, HW.out⟩
set_option maxRecDepth 100000 in
set_option maxHeartbeats 2000000 in
theorem apartReplies_any (v0 : Value) (us : List SV) (fs : List (List RpE)) (f : Nat → List P20) (w : World) (he : SliceOf ERR w v0 us) (hl : us.length = fs.length) (hs : RoomsOf ER w us fun k => (fs[k]?).getD []) (hr : RoomsOf E20 w (fs.flatMap fun l => l.map RpE.pv) f)
    (hd : Dist (fs.flatMap fun l => l.map RpE.pv)) (hdu : Dist us) (hx : ∀ b, SS us b → ¬ SS (fs.flatMap fun l => l.map RpE.pv) b) (hn : (fs.flatMap fun l => l.map RpE.pv).length ≤ 1048576) (hm : us.length ≤ 1048576) (hf : ∀ j, (f j).length ≤ 8388608) (hgl : ∀ j : Nat, ((fs[j]?).getD []).length ≤ 1048576) :
    Calls Tryz.prog 29 #[v0] w fun e w' => e = .returned (.bool true) ∧ Only (fun b => SS (fs.flatMap fun l => l.map RpE.pv) b ∨ SS us b) w w' := by
  have hlv := fun W => xxlen_R he W
  have HE := Lib.hid he
  have HS := Lib.hid hs
  have HR := Lib.hid hr
  have HD := Lib.hid hd
  have HDU := Lib.hid hdu
  have HXX := Lib.hid hx
  have hbld : ∀ W, (Instr.build 124 #[]).run Tryz.prog W = .ok (.agg (bagR (.slice none 0 0) (.slice none 0 0))) W := fun W => by kernel_rfl
  have HBLD := Lib.hid hbld
  have hpre : ∀ k, ((fs.take k).flatMap fun l => l.map RpE.pv).length ≤ (fs.flatMap fun l => l.map RpE.pv).length := fun k => by
    conv => rhs; rw [← List.take_append_drop k fs, List.flatMap_append, List.length_append]
    omega
  clear he hs hr hd hdu hx hbld
  go_enter Tryz.func29, Tryz.ntmps29
  go_wp2_with (first | (with_reducible refine Agg.wpList_build0 124 rfl rfl (.agg (bagR (.slice none 0 0) (.slice none 0 0))) HBLD.out ?_) | (with_reducible refine Agg.wpList_box rfl 124 _ rfl (bagR (.slice none 0 0) (.slice none 0 0)) rfl ?_; intro g w1 hb1 hx1 hlt1))
  go_loopw [4] (fun i wr => ∃ (k : Nat) (v u : Value), k ≤ us.length ∧ i = .int .i64 k ∧ BgR g wr v u ((fs.take k).flatMap fun l => l.map RpE.pv) (us.take k) ∧ Below w.heap.size w wr) (fun i _ => us.length - (intOf i).toNat)
  case atStart => exact ⟨0, _, _, by omega, rfl, ⟨hb1, by simpa using Own.nil EPP _ _, by simpa using Own.nil ERR _ _⟩, hx1⟩
  case round =>
    clear hb1 hx1
    obtain ⟨w2, rfl⟩ : ∃ w2 : World, w2 = wr := ⟨_, rfl⟩
    obtain ⟨k, v, u, hk, rfl, hb, hw⟩ := hrel
    have HB := Lib.hid hb
    have HW := Lib.hid hw
    clear hb hw
    by_cases hlt : k < us.length
    · obtain ⟨x, hxk⟩ : ∃ x, us[k]? = some x := ⟨_, List.getElem?_eq_getElem hlt⟩
      obtain ⟨l, hlk⟩ : ∃ l, fs[k]? = some l := ⟨_, List.getElem?_eq_getElem (by omega)⟩
      obtain ⟨q, hadr, hld⟩ := xxat_R (SliceOf.below HE.out HW.out) k x hxk
      have hrow : RoomN ER w x.1 ((fs[k]?).getD []) := HS.out k x hxk
      rw [hlk] at hrow
      have hrow : RoomN ER w x.1 l := hrow
      have HROW := Lib.hid hrow.slice
      have HL := Lib.hid hld
      have HXK := Lib.hid hxk
      have HLK := Lib.hid hlk
      have hkl : (us.take k).length ≤ k := List.length_take_le _ _
      have hp := hpre (k + 1)
      have ht2 : (fs.take (k + 1)).flatMap (fun l => l.map RpE.pv) = (fs.take k).flatMap (fun l => l.map RpE.pv) ++ l.map RpE.pv := by rw [List.take_add_one, HLK.out]; simp
      have hp2 : ((fs.take k).flatMap fun l => l.map RpE.pv).length + l.length ≤ 1048576 := by rw [ht2, List.length_append, List.length_map] at hp; omega
      have HT2 := Lib.hid ht2
      clear hxk hlk hld hrow hp ht2
      go_wp2_with (first | (with_reducible refine Agg.wpList_loadL HL.out rfl _ rfl rfl ?_))
      refine (putReplies_any g v u _ (us.take k) x l w w2 HB.out hlt1 HW.out HROW.out (by omega) (by omega)).mono ?_
      rintro e w3 ⟨⟨r, rfl⟩, v3, u3, h3, hx3⟩
      have ht : us.take k ++ [x] = us.take (k + 1) := by rw [List.take_add_one, HXK.out]; rfl
      rw [ht, ← HT2.out] at h3
      have H3 := Lib.hid h3
      have HX3 := Lib.hid (HW.out.trans (hx3.mono hlt1))
      clear h3 hx3 ht
      go_wp2_with fail
      go_roundw
      case rel => exact ⟨k + 1, v3, u3, by omega, by go_num, H3.out, HX3.out⟩
      case measure => simp [intOf]; omega
    · obtain rfl : k = us.length := by omega
      have hB := HB.out
      rw [List.take_length, hl, List.take_length] at hB
      have hsu : ∀ b, SS us b → b < w.heap.size := HS.out.lt
      have hsv : ∀ b, SS (fs.flatMap fun l => l.map RpE.pv) b → b < w.heap.size := HR.out.lt
      have hall : ∀ b, g ≤ b → ¬ (SS (fs.flatMap fun l => l.map RpE.pv) b ∨ SS us b) := fun b hb h => by
        rcases h with h | h
        · have := hsv b h; omega
        · have := hsu b h; omega
      have HA := Lib.hid (apartR_any g v u (fs.flatMap fun l => l.map RpE.pv) us f (fun k => (fs[k]?).getD []) w2 hB.blk (hall g (Nat.le_refl _)) hB.paths.slice hB.reps.slice (HR.out.below HW.out) (HS.out.below HW.out) HD.out HDU.out HXX.out
        (fun b hb => hall b (by have := (hB.paths.block b hb).1; omega)) (fun b hb => hall b (by have := (hB.reps.block b hb).1; omega)) (by omega) (by omega) hf (fun j => by have := hgl j; omega))
      clear hB hsu hsv hall
      go_wp2_with fail
      refine HA.out.mono ?_
      rintro e w3 ⟨rfl, h3, _⟩
      have H3 := Lib.hid ((Only.of_below HW.out).trans h3 (fun _ _ h => h))
      clear h3
      go_wp2_with fail
      go_ret
      exact ⟨rfl, H3.out⟩
end Go.Proofs.YtpnolgliklmnmaaGreat
/-! spencekit.LentBytes. -/
namespace Go.Proofs.YtpnolgliklmnmaaGreat
open Go.RowKit Pl Go.Agg
/-- a list with marks behind it, in its spare room -/
def Lent {α : Type} (E : Elem Tryz.prog α) (M : List α) (base : Nat) (w : World) (u : Value) (l : List α) : Prop :=
  ∃ g cap, u = .slice (some ⟨g, 0, none⟩) l.length cap ∧ base ≤ g ∧ l.length + M.length ≤ cap ∧ SliceOf E w (.slice (some ⟨g, 0, none⟩) (l.length + M.length) cap) (l ++ M)
/-- .. in a block of its own -/
def LentO {α : Type} (E : Elem Tryz.prog α) (M : List α) (base : Nat) (w : World) (u : Value) (l : List α) : Prop :=
  ∃ g cap, u = .slice (some ⟨g, 0, none⟩) l.length cap ∧ Own E base w (.slice (some ⟨g, 0, none⟩) (l.length + M.length) cap) (l ++ M)
theorem LentO.lent {α : Type} {E : Elem Tryz.prog α} {M l : List α} {base : Nat} {w : World} {u : Value} (h : LentO E M base w u l) (_hM : 0 < M.length) : Lent E M base w u l := by
  obtain ⟨g, cap, rfl, ho⟩ := h
  have hs := ho.slice
  obtain ⟨_, ⟨h, _⟩ | ⟨g', cap', cur, hv, hgb, hcur, hle, _⟩⟩ := ho
  · cases h
  · injection hv with h1 h2 h3
    injection h1 with h1
    injection h1 with h1
    subst h1 h3
    exact ⟨g, cap, rfl, hgb, by rw [← List.length_append]; exact hle, hs⟩
theorem LentO.of_own {α : Type} {E : Elem Tryz.prog α} {M l : List α} {base : Nat} {w : World} {v : Value} (h : Own E base w v (l ++ M)) (hM : 0 < M.length) : ∃ g cap, v = .slice (some ⟨g, 0, none⟩) (l.length + M.length) cap ∧ l.length + M.length ≤ cap ∧ LentO E M base w (.slice (some ⟨g, 0, none⟩) l.length cap) l := by
  have ho := h
  obtain ⟨hfl, ⟨rfl, h0⟩ | ⟨g, cap, cur, rfl, hgb, hcur, hle, _⟩⟩ := h
  · rw [List.length_append] at h0; omega
  · rw [List.length_append] at hle ho ⊢
    exact ⟨g, cap, rfl, hle, g, cap, rfl, ho⟩
theorem Lent.of_own {α : Type} {E : Elem Tryz.prog α} {M l : List α} {base : Nat} {w : World} {v : Value} (h : Own E base w v (l ++ M)) (hM : 0 < M.length) : ∃ g cap, v = .slice (some ⟨g, 0, none⟩) (l.length + M.length) cap ∧ l.length + M.length ≤ cap ∧ Lent E M base w (.slice (some ⟨g, 0, none⟩) l.length cap) l := by
  have hs := h.slice
  obtain ⟨hfl, ⟨rfl, h0⟩ | ⟨g, cap, cur, rfl, hgb, hcur, hle, _⟩⟩ := h
  · rw [List.length_append] at h0; omega
  · rw [List.length_append] at hs hle ⊢
    exact ⟨g, cap, rfl, hle, g, cap, rfl, hgb, hle, hs⟩
set_option maxRecDepth 100000 in
set_option maxHeartbeats 1000000 in
theorem lentBytes_own (v : Value) (b : List UInt8) (hb : b.length ≤ 1048576) (w : World) (he : BytesAt w v b) :
    Calls Tryz.prog 8 #[v] w fun e w' => ∃ u, e = .returned u ∧ Below w.heap.size w w' ∧ LentO EB (marks 1 12) w.heap.size w' u b := by
  have hlv := fun W => bytes_len he W
  have HE := Lib.hid he
  clear he
  have hc : b.length + 12 ≤ 1099511627776 / 8 := by omega
  go_enter Tryz.func8, Tryz.ntmps8
  go_wp2_with (first | (refine Agg.wpList_make0 (base := w.heap.size) EB rfl .i64 .i64 _ (b.length + 12) rfl rfl hc (by decide) (Nat.le_refl _) ?_; intro v1 w1 ho1 hx1) | (at_builtin; refine Agg.walk_stop ?_))
  refine ⟨?_, trivial⟩
  have h63 : ([] : List UInt8).length + b.length ≤ 1099511627776 / 8 := by simp; omega
  refine Agg.wpList_appendS (E := EB) rfl _ _ rfl v rfl rfl b ho1 (SliceOf.below HE.out hx1) h63 (by decide) hx1.size ?_
  intro v2 w2 ho2 hp2 _
  rw [List.nil_append] at ho2
  have hx2 := hx1.trans (hp2.below w.heap.size (Nat.le_refl _) hx1.size)
  simp only [Act.put, List.setIfInBounds_toArray, List.set_cons_succ, List.set_cons_zero]
  clear ho1 hp2 hx1
  go_wp2_with fail
  go_loopw [3, 4] (fun out i wr => ∃ k : Nat, k ≤ 12 ∧ i = .int .i64 k ∧ Own EB w.heap.size wr out (b ++ marks 1 k) ∧ Below w.heap.size w wr) (fun _ i _ => 12 - (intOf i).toNat)
  case atStart => exact ⟨0, by omega, rfl, by simpa [marks] using ho2, hx2⟩
  case round =>
    clear ho2 hx2
    obtain ⟨w3, rfl⟩ : ∃ w3 : World, w3 = wr := ⟨_, rfl⟩
    obtain ⟨k, hk, rfl, ho, hw⟩ := hrel
    have HO := Lib.hid ho
    have HW := Lib.hid hw
    clear ho hw
    by_cases hlt : k < 12
    · have h63 : (b ++ marks 1 k).length + 1 ≤ 1099511627776 / 8 := by rw [List.length_append, marks_length]; omega
      have hsz := HW.out.size
      go_wp2_with fail
      refine (markByte_any 1 k (by omega) (by omega) _).mono ?_
      rintro e w4 ⟨rfl, rfl⟩
      go_wp2_with (first | (refine Agg.wpList_push (E := EB) (base := w.heap.size) rfl rfl 19 rfl _ rfl _ rfl (mkB 1 k) rfl (fun _ => rfl) (by simp) HO.out h63 (by decide) hsz ?_; intro u5 v5 w5 ho5 hp5))
      rw [List.append_assoc, ← marks_succ] at ho5
      go_wp2_with fail
      go_roundw
      case rel => exact ⟨k + 1, by omega, by go_num, ho5, HW.out.trans (hp5.below w.heap.size (Nat.le_refl _) hsz)⟩
      case measure => simp [intOf]; omega
    · obtain rfl : k = 12 := by omega
      obtain ⟨g, cap, rfl, hcap, hlent⟩ := LentO.of_own HO.out (by rw [marks_length]; omega)
      rw [marks_length] at hcap
      have hcap2 : b.length ≤ cap := by omega
      have HLT := Lib.hid hlent
      clear hlent
      go_wp2_with fail
      go_ret
      exact ⟨_, rfl, HW.out, HLT.out⟩
theorem lentBytes_any (v : Value) (b : List UInt8) (hb : b.length ≤ 1048576) (w : World) (he : BytesAt w v b) :
    Calls Tryz.prog 8 #[v] w fun e w' => ∃ u, e = .returned u ∧ Below w.heap.size w w' ∧ Lent EB (marks 1 12) w.heap.size w' u b :=
  (lentBytes_own v b hb w he).mono fun _ _ ⟨u, he, hb, hl⟩ => ⟨u, he, hb, hl.lent (by rw [marks_length]; omega)⟩
end Go.Proofs.YtpnolgliklmnmaaGreat
/-! What is lent: its laws, for any elements. -/
namespace Go.Proofs.YtpnolgliklmnmaaGreat
open Go.RowKit Pl Go.Agg
section
variable {α : Type} {E : Elem Tryz.prog α} {M l : List α} {base : Nat} {w w' : World} {u : Value}
theorem Lent.slice (h : Lent E M base w u l) : SliceOf E w u l := by
  obtain ⟨g, cap, rfl, _, _, hs⟩ := h
  rcases hs with ⟨p, c, hv, hl⟩ | ⟨p, c, hv, hp, hc⟩
  · obtain ⟨rfl, _⟩ := List.append_eq_nil_iff.1 hl
    exact SliceOf.nil _ _ _
  · simp only [Value.slice.injEq, Option.some.injEq] at hv
    obtain ⟨rfl, _, rfl⟩ := hv
    refine .inr ⟨_, _, rfl, hp, fun j u hj => hc j u ?_⟩
    rw [Elem.flat_append, List.getElem?_append_left (List.getElem?_eq_some_iff.1 hj).1]
    exact hj
theorem Lent.below (h : Lent E M base w u l) (hb : Below w.heap.size w w') : Lent E M base w' u l := by
  obtain ⟨g, cap, rfl, h1, h2, hs⟩ := h
  exact ⟨g, cap, rfl, h1, h2, hs.below hb⟩
theorem Lent.only {S : Nat → Prop} (h : Lent E M base w u l) (ho : Only S w w') (hS : ∀ b, base ≤ b → ¬ S b) : Lent E M base w' u l := by
  obtain ⟨g, cap, rfl, h1, h2, hs⟩ := h
  refine ⟨g, cap, rfl, h1, h2, hs.onlyS ho fun b hb => hS b ?_⟩
  simp only [Value.ownBlock, Option.some.injEq] at hb
  omega
theorem Lent.onlyB {S : Nat → Prop} (h : Lent E M base w u l) (ho : Only S w w') (hS : ∀ b, u.ownBlock = some b → ¬ S b) : Lent E M base w' u l := by
  obtain ⟨g, cap, rfl, h1, h2, hs⟩ := h
  exact ⟨g, cap, rfl, h1, h2, hs.onlyS ho fun b hb => hS b hb⟩
theorem Lent.lower {b' : Nat} (h : Lent E M base w u l) (hb : b' ≤ base) : Lent E M b' w u l := by
  obtain ⟨g, cap, rfl, h1, h2, hs⟩ := h
  exact ⟨g, cap, rfl, Nat.le_trans hb h1, h2, hs⟩
theorem Lent.form (h : Lent E M base w u l) : ∃ g cap, u = .slice (some ⟨g, 0, none⟩) l.length cap ∧ base ≤ g := by
  obtain ⟨g, cap, rfl, h1, _⟩ := h
  exact ⟨g, cap, rfl, h1⟩
end
end Go.Proofs.YtpnolgliklmnmaaGreat
/-! spencekit.KeptBytes. -/
namespace Go.Proofs.YtpnolgliklmnmaaGreat
open Go.RowKit Pl Go.Agg
theorem markByte_off (k n : Nat) (hk : n ≤ k) (hi : k ≤ 16777216) (w : World) : Calls Tryz.prog 36 #[.int .i64 1, .int .i64 ((k : Int) - (n : Int))] w fun e w' => e = .returned (.int .u8 ((mkB 1 (k - n)).toNat : Int)) ∧ Below w.heap.size w w' := by
  rw [show ((k : Int) - (n : Int)) = ((k - n : Nat) : Int) by omega]
  exact markByte_blw 1 (k - n) (by omega) (by omega) w
set_option maxRecDepth 100000 in
set_option maxHeartbeats 1000000 in
theorem keptBytes_any (u v : Value) (b : List UInt8) (hb : b.length ≤ 1048576) (base : Nat) (w : World) (hu : Lent EB (marks 1 12) base w u b) (hv : BytesAt w v b) :
    Calls Tryz.prog 19 #[u, v] w fun e w' => e = .returned (.bool true) ∧ Below w.heap.size w w' := by
  have hlv := fun W => bytes_len hv W
  have HV := Lib.hid hv
  obtain ⟨g, cap, rfl, _, hcap, ha⟩ := hu
  rw [marks_length] at hcap ha
  have HA := Lib.hid ha
  clear hv ha
  have hne : ((b.length : Int) != (b.length : Int)) = false := by simp
  go_enter Tryz.func19, Tryz.ntmps19
  go_wp2_with fail
  go_loopw [6] (fun i wr => ∃ k : Nat, k ≤ b.length + 12 ∧ i = .int .i64 k ∧ Below w.heap.size w wr) (fun i _ => b.length + 12 - (intOf i).toNat)
  case atStart => exact ⟨0, by omega, rfl, Below.refl _ _⟩
  case round =>
    obtain ⟨w1, rfl⟩ : ∃ w1 : World, w1 = wr := ⟨_, rfl⟩
    obtain ⟨k, hk, rfl, hw⟩ := hrel
    have HW := Lib.hid hw
    clear hw
    by_cases hlt : k < b.length + 12
    · by_cases hlt2 : k < b.length
      · obtain ⟨y, hyk⟩ : ∃ y, b[k]? = some y := ⟨_, List.getElem?_eq_getElem hlt2⟩
        obtain ⟨pa, hadp, hlda⟩ := byte_at (SliceOf.below HA.out HW.out) k y (by rw [List.getElem?_append_left hlt2]; exact hyk)
        obtain ⟨pv, hadv, hldv⟩ := byte_at (SliceOf.below HV.out HW.out) k y hyk
        have HLA := Lib.hid hlda
        have HLV := Lib.hid hldv
        have hd1 : decide ((k : Int) < (b.length : Int)) = true := by simp; omega
        have hd3 : decide (b.length ≤ k) = false := by simp; omega
        clear hyk hlda hldv
        go_wp2_with fail
        try simp only [Act.put, List.setIfInBounds_toArray, List.set_cons_succ, List.set_cons_zero]
        refine Agg.wp_region_later_lit (by kernel_rfl) (by kernel_rfl) ?_
        repeat (first | go_big_quiet_skip | ((first | (with_reducible refine Agg.wpQuiet_loadL HLA.out rfl _ rfl rfl ?_) | (with_reducible refine Agg.wpQuiet_loadL HLV.out rfl _ rfl rfl ?_)); simp only [Act.put, List.setIfInBounds_toArray, List.set_cons_succ, List.set_cons_zero]) | go_big_quiet_step (fail))
        refine wpQuiet_nil ?_
        intro _ hw'
        obtain ⟨x1, rfl⟩ := hw'
        go_wp2_with fail
        go_roundw
        case rel => exact ⟨k + 1, by omega, by go_num, Agg.belowThen HW.out (Nat.le_refl _) x1.h⟩
        case measure => simp [intOf]; omega
      · obtain ⟨pa, hadp, hlda⟩ := byte_at (SliceOf.below HA.out HW.out) k (mkB 1 (k - b.length)) (by rw [List.getElem?_append_right (by omega)]; exact marks_get _ _ _ (by omega))
        have HLA := Lib.hid hlda
        have hd1 : decide ((k : Int) < (b.length : Int)) = false := by simp; omega
        have hd3 : decide (b.length ≤ k) = true := by simp; omega
        clear hlda
        go_wp2_with fail
        try simp only [Act.put, List.setIfInBounds_toArray, List.set_cons_succ, List.set_cons_zero]
        refine Agg.wp_region_later_lit (by kernel_rfl) (by kernel_rfl) ?_
        repeat (first | go_big_quiet_skip | ((first | (with_reducible refine Agg.wpQuiet_loadL HLA.out rfl _ rfl rfl ?_)); simp only [Act.put, List.setIfInBounds_toArray, List.set_cons_succ, List.set_cons_zero]) | go_big_quiet_step ((go_at_call 36; exact Agg.Calls.later (markByte_off k b.length (by omega) (by omega) _))))
        refine wpQuiet_nil ?_
        intro _ hw'
        obtain ⟨x1, rfl⟩ := hw'
        go_wp2_with fail
        go_roundw
        case rel => exact ⟨k + 1, by omega, by go_num, Agg.belowThen HW.out (Nat.le_refl _) x1.h⟩
        case measure => simp [intOf]; omega
    · obtain rfl : k = b.length + 12 := by omega
      go_wp2_with fail
      go_ret
      exact ⟨rfl, HW.out⟩
end Go.Proofs.YtpnolgliklmnmaaGreat
