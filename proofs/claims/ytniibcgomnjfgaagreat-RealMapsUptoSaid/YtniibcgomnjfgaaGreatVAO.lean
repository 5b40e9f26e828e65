/- code.Maker's block; what a step of a maker leaves alone. (Several texts in one.) -/
import Derived.Test.YtniibcgomnjfgaaGreatVAI
import Derived.Test.YtniibcgomnjfgaaGreatVAK
import Derived.Test.YtniibcgomnjfgaaGreatVAM
import Derived.Test.YtniibcgomnjfgaaGreatVAN
import Derived.Test.YtniibcgomnjfgaaGreatVAA
import Derived.Test.YtniibcgomnjfgaaGreatVAC
import Derived.Deep.MidRow
import Derived.Test.YtniibcgomnjfgaaGreatVAE
/-! (*spencekit.bag).apart of rows of paths, of what was made, of builts. -/
namespace Go.Proofs.YtniibcgomnjfgaaGreat
open Go.RowKit Pl Go.Agg
theorem flatBytes_nilK (w : World) : Calls Tryz.prog 84 #[.slice none 0 0] w fun e w' => e = .returned (.bool true) ∧ Below w.heap.size w w' := by
  refine (flatBytes_any (.slice none 0 0) [] (fun _ => []) w (SliceOf.nil _ _ _) (fun k v h => by simp at h) (fun i j u v h => by simp at h) (fun b h => by simp [Value.ownBlock] at h) (by simp) (fun _ => by simp)).mono ?_
  rintro e w' ⟨rfl, ho, _⟩
  exact ⟨rfl, (ho.mono (T := fun _ => False) fun b _ h => by obtain ⟨i, u, hi, _⟩ := h; simp at hi).below (Nat.le_refl _) fun _ h => h.elim⟩
def bagK (vp vm vu : Value) : Array Value := #[.slice none 0 0, .slice none 0 0, .slice none 0 0, .slice none 0 0, .slice none 0 0, .slice none 0 0, .slice none 0 0, vp, .slice none 0 0, .slice none 0 0, .slice none 0 0, .slice none 0 0, .slice none 0 0, .slice none 0 0, .slice none 0 0, .slice none 0 0, .slice none 0 0, vm, vu, .slice none 0 0, .slice none 0 0]
/-- what apart may do -/
def ApK (w : World) (ps : List SV) (ms : List SV) (us : List SV) (fp : Nat → List P20) (fm : Nat → List Md) (fu : Nat → List BuV) (w' : World) : Prop := Only (fun b => SS ps b ∨ SS ms b ∨ SS us b) w w' ∧ (∃ f', RoomsOf E20 w' ps f' ∧ ∀ j, (f' j).length = (fp j).length) ∧ (∃ f', RoomsOf EMd w' ms f' ∧ ∀ j, (f' j).length = (fm j).length) ∧ ∃ f', RoomsOf EBu w' us f' ∧ ∀ j, (f' j).length = (fu j).length
theorem ApK.below {w : World} {ps ms us : List SV} {fp : Nat → List P20} {fm : Nat → List Md} {fu : Nat → List BuV} (a b : World) (h : ApK w ps ms us fp fm fu a) (hb : Below a.heap.size a b) : ApK w ps ms us fp fm fu b := by
  obtain ⟨h1, ⟨f', h2, h3⟩, ⟨g', h4, h5⟩, e', h6, h7⟩ := h
  exact ⟨h1.trans (Only.of_below (S := fun _ => False) hb) (fun _ _ h => h.elim), ⟨f', h2.below hb, h3⟩, ⟨g', h4.below hb, h5⟩, e', h6.below hb, h7⟩
set_option maxRecDepth 100000 in
set_option maxHeartbeats 4000000 in
theorem apartK_any (b : Nat) (vp vm vu : Value) (ps : List SV) (ms : List SV) (us : List SV) (fp : Nat → List P20) (fm : Nat → List Md) (fu : Nat → List BuV) (w : World) (hg : Blk w b 100 (bagK vp vm vu)) (hgS : ¬ (SS ps b ∨ SS ms b ∨ SS us b)) (hqp : SliceOf EPP w vp ps) (hqm : SliceOf EMM w vm ms) (hqu : SliceOf EUU w vu us) (hrp : RoomsOf E20 w ps fp) (hrm : RoomsOf EMd w ms fm) (hru : RoomsOf EBu w us fu) (hdp : Dist ps) (hdm : Dist ms) (hdu : Dist us)
    (hxpm : ∀ b, SS ps b → ¬ SS ms b) (hxpu : ∀ b, SS ps b → ¬ SS us b) (hxmp : ∀ b, SS ms b → ¬ SS ps b) (hxmu : ∀ b, SS ms b → ¬ SS us b) (hxup : ∀ b, SS us b → ¬ SS ps b) (hxum : ∀ b, SS us b → ¬ SS ms b)
    (hsp : ∀ b, vp.ownBlock = some b → ¬ (SS ps b ∨ SS ms b ∨ SS us b)) (hsm : ∀ b, vm.ownBlock = some b → ¬ (SS ps b ∨ SS ms b ∨ SS us b)) (hsu : ∀ b, vu.ownBlock = some b → ¬ (SS ps b ∨ SS ms b ∨ SS us b))
    (hnp : ps.length ≤ 4194304) (hnm : ms.length ≤ 4194304) (hnu : us.length ≤ 4194304) (hfp : ∀ j, (fp j).length ≤ 8388608) (hfm : ∀ j, (fm j).length ≤ 8388608) (hfu : ∀ j, (fu j).length ≤ 8388608) :
    Calls Tryz.prog 55 #[.pointer (some ⟨b, 0, none⟩)] w fun e w' => e = .returned (.bool true) ∧ ApK w ps ms us fp fm fu w' := by
  have hld : ∀ (k : Nat) (v : Value) (ty : TypeId) (d : TypeDesc), (bagK vp vm vu)[k]? = some v → Tryz.prog.underlying ty = some d → (match d with | .struct _ | .array _ _ => true | _ => false) = false →
      ∀ w', ApK w ps ms us fp fm fu w' → LoadsL Tryz.prog w' ty (some ⟨b, k, none⟩) v := by
    intro k v ty d hk hu hd w' hx
    have hb : Blk w' b 100 (bagK vp vm vu) := (hx.1.block b hg.lt hgS).trans hg
    exact hb.one (P := Tryz.prog) k hk hu (by cases d <;> first | rfl | cases hd)
  have HLD := Lib.hid hld
  clear hld
  have HCC : Hid (∀ a b, ApK w ps ms us fp fm fu a → Below a.heap.size a b → ApK w ps ms us fp fm fu b) := Lib.hid ApK.below
  have HCp : Hid (∀ x : Cls (ApK w ps ms us fp fm fu), Calls Tryz.prog 86 #[vp] x.w fun e w' => e = .returned (.bool true) ∧ ApK w ps ms us fp fm fu w') := Lib.hid (fun x => by
    obtain ⟨x, h1, ⟨gp, hp, hlp⟩, ⟨gm, hm, hlm⟩, ⟨gu, hu, hlu⟩⟩ := x
    refine (flatPaths_any vp ps gp x (SliceOf.onlyS hqp h1 hsp) hp hdp (fun b hb h => hsp b hb (.inl h)) hnp (fun j => by rw [hlp]; exact hfp j)).mono ?_
    rintro e w' ⟨rfl, h6, f2, h7, h8⟩
    exact ⟨rfl, h1.trans h6 (fun _ _ h => .inl h), ⟨f2, h7, fun j => by rw [h8, hlp]⟩, ⟨gm, hm.only h6 (fun b hb h => hxmp b hb h), hlm⟩, ⟨gu, hu.only h6 (fun b hb h => hxup b hb h), hlu⟩⟩)
  have HCm : Hid (∀ x : Cls (ApK w ps ms us fp fm fu), Calls Tryz.prog 96 #[vm] x.w fun e w' => e = .returned (.bool true) ∧ ApK w ps ms us fp fm fu w') := Lib.hid (fun x => by
    obtain ⟨x, h1, ⟨gp, hp, hlp⟩, ⟨gm, hm, hlm⟩, ⟨gu, hu, hlu⟩⟩ := x
    refine (flatMades_any vm ms gm x (SliceOf.onlyS hqm h1 hsm) hm hdm (fun b hb h => hsm b hb (.inr (.inl h))) hnm (fun j => by rw [hlm]; exact hfm j)).mono ?_
    rintro e w' ⟨rfl, h6, f2, h7, h8⟩
    exact ⟨rfl, h1.trans h6 (fun _ _ h => .inr (.inl h)), ⟨gp, hp.only h6 (fun b hb h => hxpm b hb h), hlp⟩, ⟨f2, h7, fun j => by rw [h8, hlm]⟩, ⟨gu, hu.only h6 (fun b hb h => hxum b hb h), hlu⟩⟩)
  have HCu : Hid (∀ x : Cls (ApK w ps ms us fp fm fu), Calls Tryz.prog 97 #[vu] x.w fun e w' => e = .returned (.bool true) ∧ ApK w ps ms us fp fm fu w') := Lib.hid (fun x => by
    obtain ⟨x, h1, ⟨gp, hp, hlp⟩, ⟨gm, hm, hlm⟩, ⟨gu, hu, hlu⟩⟩ := x
    refine (flatBuilts_any vu us gu x (SliceOf.onlyS hqu h1 hsu) hu hdu (fun b hb h => hsu b hb (.inr (.inr h))) hnu (fun j => by rw [hlu]; exact hfu j)).mono ?_
    rintro e w' ⟨rfl, h6, f2, h7, h8⟩
    exact ⟨rfl, h1.trans h6 (fun _ _ h => .inr (.inr h)), ⟨gp, hp.only h6 (fun b hb h => hxpu b hb h), hlp⟩, ⟨gm, hm.only h6 (fun b hb h => hxmu b hb h), hlm⟩, ⟨f2, h7, fun j => by rw [h8, hlu]⟩⟩)
  have h0 : ApK w ps ms us fp fm fu w := ⟨Only.refl _ _, ⟨fp, hrp, fun _ => rfl⟩, ⟨fm, hrm, fun _ => rfl⟩, fu, hru, fun _ => rfl⟩
  have HC := Lib.hid h0
  clear h0 hrp hrm hru hqp hqm hqu hdp hdm hdu hxpm hxpu hxmp hxmu hxup hxum hsp hsm hsu hfp hfm hfu hg
  go_enter Tryz.func55, Tryz.ntmps55
  simp only [List.append_eq, List.cons_append, List.nil_append]
  have HL := Lib.hid (HLD.out 0 (.slice none 0 0) 80 _ rfl Tryz.underlying80 rfl _ HC.out)
  go_wp2_with (first | (with_reducible refine Agg.wpList_loadL HL.out rfl _ rfl rfl ?_))
  clear HL
  refine (flatLimbs_nil _).mono ?_
  rintro e w1 ⟨rfl, h1⟩
  have HC := Lib.hid (HCC.out _ _ HC.out h1)
  clear h1
  have HL := Lib.hid (HLD.out 1 (.slice none 0 0) 81 _ rfl Tryz.underlying81 rfl _ HC.out)
  go_wp2_with (first | (with_reducible refine Agg.wpList_loadL HL.out rfl _ rfl rfl ?_))
  clear HL
  refine (flatWords_nil _).mono ?_
  rintro e w2 ⟨rfl, h2⟩
  have HC := Lib.hid (HCC.out _ _ HC.out h2)
  clear h2
  have HL := Lib.hid (HLD.out 2 (.slice none 0 0) 82 _ rfl Tryz.underlying82 rfl _ HC.out)
  go_wp2_with (first | (with_reducible refine Agg.wpList_loadL HL.out rfl _ rfl rfl ?_))
  clear HL
  refine (flatInts_nil _).mono ?_
  rintro e w3 ⟨rfl, h3⟩
  have HC := Lib.hid (HCC.out _ _ HC.out h3)
  clear h3
  have HL := Lib.hid (HLD.out 3 (.slice none 0 0) 83 _ rfl Tryz.underlying83 rfl _ HC.out)
  go_wp2_with (first | (with_reducible refine Agg.wpList_loadL HL.out rfl _ rfl rfl ?_))
  clear HL
  refine (flatLongs_nil _).mono ?_
  rintro e w4 ⟨rfl, h4⟩
  have HC := Lib.hid (HCC.out _ _ HC.out h4)
  clear h4
  have HL := Lib.hid (HLD.out 4 (.slice none 0 0) 84 _ rfl Tryz.underlying84 rfl _ HC.out)
  go_wp2_with (first | (with_reducible refine Agg.wpList_loadL HL.out rfl _ rfl rfl ?_))
  clear HL
  refine (flatTexts_nil _).mono ?_
  rintro e w5 ⟨rfl, h5⟩
  have HC := Lib.hid (HCC.out _ _ HC.out h5)
  clear h5
  have HL := Lib.hid (HLD.out 5 (.slice none 0 0) 85 _ rfl Tryz.underlying85 rfl _ HC.out)
  go_wp2_with (first | (with_reducible refine Agg.wpList_loadL HL.out rfl _ rfl rfl ?_))
  clear HL
  refine (flatBytes_nilK _).mono ?_
  rintro e w6 ⟨rfl, h6⟩
  have HC := Lib.hid (HCC.out _ _ HC.out h6)
  clear h6
  have HL := Lib.hid (HLD.out 6 (.slice none 0 0) 86 _ rfl Tryz.underlying86 rfl _ HC.out)
  go_wp2_with (first | (with_reducible refine Agg.wpList_loadL HL.out rfl _ rfl rfl ?_))
  clear HL
  refine (flatTruths_nil _).mono ?_
  rintro e w7 ⟨rfl, h7⟩
  have HC := Lib.hid (HCC.out _ _ HC.out h7)
  clear h7
  have HL := Lib.hid (HLD.out 7 (vp) 50 _ rfl Tryz.underlying50 rfl _ HC.out)
  go_wp2_with (first | (with_reducible refine Agg.wpList_loadL HL.out rfl _ rfl rfl ?_))
  clear HL
  refine (HCp.out ⟨_, HC.out⟩).mono ?_
  rintro e w8 ⟨rfl, h8⟩
  have HC := Lib.hid h8
  clear h8
  have HL := Lib.hid (HLD.out 8 (.slice none 0 0) 87 _ rfl Tryz.underlying87 rfl _ HC.out)
  go_wp2_with (first | (with_reducible refine Agg.wpList_loadL HL.out rfl _ rfl rfl ?_))
  clear HL
  refine (flatKids_nil _).mono ?_
  rintro e w9 ⟨rfl, h9⟩
  have HC := Lib.hid (HCC.out _ _ HC.out h9)
  clear h9
  have HL := Lib.hid (HLD.out 9 (.slice none 0 0) 88 _ rfl Tryz.underlying88 rfl _ HC.out)
  go_wp2_with (first | (with_reducible refine Agg.wpList_loadL HL.out rfl _ rfl rfl ?_))
  clear HL
  refine (flatNodes_nil _).mono ?_
  rintro e w10 ⟨rfl, h10⟩
  have HC := Lib.hid (HCC.out _ _ HC.out h10)
  clear h10
  have HL := Lib.hid (HLD.out 10 (.slice none 0 0) 89 _ rfl Tryz.underlying89 rfl _ HC.out)
  go_wp2_with (first | (with_reducible refine Agg.wpList_loadL HL.out rfl _ rfl rfl ?_))
  clear HL
  refine (flatLines_nil _).mono ?_
  rintro e w11 ⟨rfl, h11⟩
  have HC := Lib.hid (HCC.out _ _ HC.out h11)
  clear h11
  have HL := Lib.hid (HLD.out 11 (.slice none 0 0) 90 _ rfl Tryz.underlying90 rfl _ HC.out)
  go_wp2_with (first | (with_reducible refine Agg.wpList_loadL HL.out rfl _ rfl rfl ?_))
  clear HL
  refine (flatChanges_nil _).mono ?_
  rintro e w12 ⟨rfl, h12⟩
  have HC := Lib.hid (HCC.out _ _ HC.out h12)
  clear h12
  have HL := Lib.hid (HLD.out 12 (.slice none 0 0) 91 _ rfl Tryz.underlying91 rfl _ HC.out)
  go_wp2_with (first | (with_reducible refine Agg.wpList_loadL HL.out rfl _ rfl rfl ?_))
  clear HL
  refine (flatRuns_nil _).mono ?_
  rintro e w13 ⟨rfl, h13⟩
  have HC := Lib.hid (HCC.out _ _ HC.out h13)
  clear h13
  have HL := Lib.hid (HLD.out 13 (.slice none 0 0) 92 _ rfl Tryz.underlying92 rfl _ HC.out)
  go_wp2_with (first | (with_reducible refine Agg.wpList_loadL HL.out rfl _ rfl rfl ?_))
  clear HL
  refine (flatObjects_nil _).mono ?_
  rintro e w14 ⟨rfl, h14⟩
  have HC := Lib.hid (HCC.out _ _ HC.out h14)
  clear h14
  have HL := Lib.hid (HLD.out 14 (.slice none 0 0) 93 _ rfl Tryz.underlying93 rfl _ HC.out)
  go_wp2_with (first | (with_reducible refine Agg.wpList_loadL HL.out rfl _ rfl rfl ?_))
  clear HL
  refine (flatQuotas_nil _).mono ?_
  rintro e w15 ⟨rfl, h15⟩
  have HC := Lib.hid (HCC.out _ _ HC.out h15)
  clear h15
  have HL := Lib.hid (HLD.out 15 (.slice none 0 0) 94 _ rfl Tryz.underlying94 rfl _ HC.out)
  go_wp2_with (first | (with_reducible refine Agg.wpList_loadL HL.out rfl _ rfl rfl ?_))
  clear HL
  refine (flatNameds_nil _).mono ?_
  rintro e w16 ⟨rfl, h16⟩
  have HC := Lib.hid (HCC.out _ _ HC.out h16)
  clear h16
  have HL := Lib.hid (HLD.out 16 (.slice none 0 0) 95 _ rfl Tryz.underlying95 rfl _ HC.out)
  go_wp2_with (first | (with_reducible refine Agg.wpList_loadL HL.out rfl _ rfl rfl ?_))
  clear HL
  refine (flatDrvs_nil _).mono ?_
  rintro e w17 ⟨rfl, h17⟩
  have HC := Lib.hid (HCC.out _ _ HC.out h17)
  clear h17
  have HL := Lib.hid (HLD.out 17 (vm) 96 _ rfl Tryz.underlying96 rfl _ HC.out)
  go_wp2_with (first | (with_reducible refine Agg.wpList_loadL HL.out rfl _ rfl rfl ?_))
  clear HL
  refine (HCm.out ⟨_, HC.out⟩).mono ?_
  rintro e w18 ⟨rfl, h18⟩
  have HC := Lib.hid h18
  clear h18
  have HL := Lib.hid (HLD.out 18 (vu) 48 _ rfl Tryz.underlying48 rfl _ HC.out)
  go_wp2_with (first | (with_reducible refine Agg.wpList_loadL HL.out rfl _ rfl rfl ?_))
  clear HL
  refine (HCu.out ⟨_, HC.out⟩).mono ?_
  rintro e w19 ⟨rfl, h19⟩
  have HC := Lib.hid h19
  clear h19
  have HL := Lib.hid (HLD.out 19 (.slice none 0 0) 97 _ rfl Tryz.underlying97 rfl _ HC.out)
  go_wp2_with (first | (with_reducible refine Agg.wpList_loadL HL.out rfl _ rfl rfl ?_))
  clear HL
  refine (flatRequests_nil _).mono ?_
  rintro e w20 ⟨rfl, h20⟩
  have HC := Lib.hid (HCC.out _ _ HC.out h20)
  clear h20
  have HL := Lib.hid (HLD.out 20 (.slice none 0 0) 98 _ rfl Tryz.underlying98 rfl _ HC.out)
  go_wp2_with (first | (with_reducible refine Agg.wpList_loadL HL.out rfl _ rfl rfl ?_))
  clear HL
  refine (flatReplies_nil _).mono ?_
  rintro e w21 ⟨rfl, h21⟩
  have HC := Lib.hid (HCC.out _ _ HC.out h21)
  clear h21
  go_wp2_with fail
  go_ret
  exact ⟨rfl, HC.out⟩
end Go.Proofs.YtniibcgomnjfgaaGreat
/-! One cell of a block written. -/
namespace Go.Agg
open Go.RowKit
variable {P : Program}
theorem Blk.set {w : World} {g : Nat} {t : TypeId} {cs : Array Value} (h : Blk w g t cs) (i : Nat) (v : Value) : Blk (w.setCell ⟨g, i, none⟩ v) g t (cs.setIfInBounds i v) := by
  unfold Blk at *
  simp [World.setCell, Array.getElem?_modify, h]
theorem Blk.run_put {w : World} {g : Nat} {t ty : TypeId} {cs : Array Value} (h : Blk w g t cs) (i : Nat) (hi : i < cs.size) (v : Value) (hv : v.cells = #[v]) (h1 : v.oneCell' = true) (hs : (P.info? ty).map (·.size) = some 1) :
    (Instr.storeAt ty (.pointer (some ⟨g, i, none⟩)) v).run P w = .ok () (w.setCell ⟨g, i, none⟩ v) := by
  have hst := run_storeCells_cells (P := P) g i v.cells.toList 0 w (fun j hj => by
    rw [hv] at hj
    obtain rfl : j = 0 := by simpa using hj
    rw [h.cell]
    simp [hi]) (fun j _ => frozen_of_row _ _ _ _ _ h) (by rw [hv]; simpa using h1)
  have hsz : (Go.sizeOf ty).run P w = .ok 1 w := by
    cases hq : P.info? ty with
    | none => simp [hq] at hs
    | some d =>
      have : d.size = 1 := by simpa [hq] using hs
      simp [Go.sizeOf, typeInfo, hq, this]
  rw [hv] at hst
  simp only [Nat.add_zero, World.setCells] at hst
  simp [Instr.storeAt, Instr.sureAddr, storeVar, hsz, hv, hst]
end Go.Agg
/-! A row of cells stored into the middle of a block. -/
namespace Go.Agg
open Go.RowKit
variable {P : Program}
def setAll (cs : Array Value) : Nat → List Value → Array Value
  | _, [] => cs
  | i, v :: vs => setAll (cs.setIfInBounds i v) (i + 1) vs
theorem Blk.setAll {g : Nat} {t : TypeId} : ∀ (vs : List Value) (i : Nat) (w : World) (cs : Array Value), Blk w g t cs → Blk (w.setCells g i vs) g t (Agg.setAll cs i vs)
  | [], _, _, _, h => h
  | v :: vs, i, _, _, h => Blk.setAll vs (i + 1) _ _ (h.set i v)
theorem setAll_mid : ∀ (vs a b c : List Value), b.length = vs.length → setAll (a ++ (b ++ c)).toArray a.length vs = (a ++ (vs ++ c)).toArray
  | [], a, b, c, h => by
    obtain rfl := List.length_eq_zero_iff.1 h
    rfl
  | v :: vs, a, [], c, h => by simp at h
  | v :: vs, a, y :: b, c, h => by
    have e : (a ++ (y :: b ++ c)).toArray.setIfInBounds a.length v = ((a ++ [v]) ++ (b ++ c)).toArray := by simp
    have h1 := setAll_mid vs (a ++ [v]) b c (by simpa using h)
    rw [setAll, e, show a.length + 1 = (a ++ [v]).length by simp, h1]
    simp
/-- a row stored: what lies there then -/
theorem Blk.run_row {w : World} {g : Nat} {t ty : TypeId} (a b c ds : Array Value) (h : Blk w g t (a ++ (b ++ c))) (hb : b.size = ds.size) (hs : (P.info? ty).map (·.size) = some ds.size) (h1 : ds.all (·.oneCell') = true) {i : Nat} (hi : i = a.size) :
    ∃ w', (Instr.storeAt ty (.pointer (some ⟨g, i, none⟩)) (.agg ds)).run P w = .ok () w' ∧ Blk w' g t (a ++ (ds ++ c)) ∧ Only (· = g) w w' := by
  subst hi
  refine ⟨_, run_storeAt_mid w g a.size ty ds (fun j hj => ⟨?_, frozen_of_row _ _ _ _ _ h⟩) hs h1, ?_, only_setCells _ _ _ _⟩
  · rw [h.cell]
    simp
    omega
  · have h2 := h.setAll ds.toList a.size
    have e := setAll_mid ds.toList a.toList b.toList c.toList (by simpa using hb)
    have e1 : (a.toList ++ (b.toList ++ c.toList)).toArray = a ++ (b ++ c) := by apply Array.ext'; simp
    have e2 : (a.toList ++ (ds.toList ++ c.toList)).toArray = a ++ (ds ++ c) := by apply Array.ext'; simp
    rw [e1, e2, Array.length_toList] at e
    rw [← e]
    exact h2
/-- one cell stored -/
theorem Blk.run_one {w : World} {g : Nat} {t ty : TypeId} {cs : Array Value} (h : Blk w g t cs) (i : Nat) (hi : i < cs.size) (v : Value) (hv : v.cells = #[v]) (h1 : v.oneCell' = true) (hs : (P.info? ty).map (·.size) = some 1) (ds : Array Value) (he : cs.setIfInBounds i v = ds) :
    ∃ w', (Instr.storeAt ty (.pointer (some ⟨g, i, none⟩)) v).run P w = .ok () w' ∧ Blk w' g t ds ∧ Only (· = g) w w' := by
  subst he
  exact ⟨_, h.run_put i hi v hv h1 hs, h.set i v, rfl, rfl, rfl, by simp [World.setCell], fun k _ hk => Below.heap_setCell _ _ _ _ hk⟩
end Go.Agg
/-! Frames of bytes: the plain law. -/
namespace Go.Agg
/-- a number as bytes, seven bits each -/
def encN (n : Nat) : List UInt8 := if h : 128 ≤ n then UInt8.ofNat (n % 128 + 128) :: encN (n / 128) else [UInt8.ofNat n]
termination_by n
decreasing_by omega
theorem encN_lt {n : Nat} (h : n < 128) : encN n = [UInt8.ofNat n] := by rw [encN, dif_neg (by omega)]
theorem encN_ge {n : Nat} (h : 128 ≤ n) : encN n = UInt8.ofNat (n % 128 + 128) :: encN (n / 128) := by rw [encN, dif_pos h]
/-- how many bytes a frame's number has (0: some are missing, below 0: wrong), and what it is -/
def begGo : Nat → Nat → List UInt8 → Int × Nat
  | k, _, [] => if k = 3 then (-1, 0) else (0, 0)
  | k, n, c :: t => if k = 3 then (-1, 0) else
    if 65536 < n + c.toNat % 128 * 128 ^ k ∨ (c = 0 ∧ 0 < k) then (-1, 0) else
    if c.toNat < 128 then ((k : Int) + 1, n + c.toNat % 128 * 128 ^ k) else begGo (k + 1) (n + c.toNat % 128 * 128 ^ k) t
def beg (b : List UInt8) : Int × Nat := begGo 0 0 b
theorem begGo_append {x : List UInt8} : ∀ {k n : Nat} (y : List UInt8), (begGo k n x).1 ≠ 0 → begGo k n (x ++ y) = begGo k n x := by
  induction x with
  | nil =>
    intro k n y h
    by_cases hk : k = 3
    · cases y <;> simp [begGo, hk]
    · simp [begGo, hk] at h
  | cons c t ih =>
    intro k n y h
    simp only [List.cons_append, begGo] at h ⊢
    split
    · rfl
    · split
      · rfl
      · split
        · rfl
        · rename_i h1 h2 h3
          rw [if_neg h1, if_neg h2, if_neg h3] at h
          exact ih y h
theorem begGo_le {x : List UInt8} : ∀ {k n : Nat}, k ≤ 3 → (begGo k n x).1 ≤ k + x.length ∧ (0 ≤ (begGo k n x).1 → (begGo k n x).1 ≠ 0 → 1 ≤ (begGo k n x).1) ∧ (begGo k n x).1 ≤ 3 ∧ (begGo k n x).2 ≤ 65536 ∧ -1 ≤ (begGo k n x).1 := by
  induction x with
  | nil => intro k n hk; simp only [begGo]; split <;> simp <;> omega
  | cons c t ih =>
    intro k n hk
    simp only [begGo]
    split
    · simp; omega
    · split
      · simp; omega
      · split
        · simp; omega
        · have := ih (k := k + 1) (n := n + c.toNat % 128 * 128 ^ k) (by omega)
          simp only [List.length_cons]
          omega
theorem beg_le (x : List UInt8) : (beg x).1 ≤ x.length := by have := (begGo_le (x := x) (k := 0) (n := 0) (by omega)).1; simpa [beg] using this
theorem beg_most (x : List UInt8) : (beg x).2 ≤ 65536 := (begGo_le (x := x) (k := 0) (n := 0) (by omega)).2.2.2.1
theorem beg_three (x : List UInt8) : (beg x).1 ≤ 3 := (begGo_le (x := x) (k := 0) (n := 0) (by omega)).2.2.1
def frames (b : List UInt8) : Option (List (List UInt8) × List UInt8) :=
  if _h : (beg b).1 < 0 then none
  else if _h2 : (beg b).1 = 0 ∨ b.length < (beg b).1.toNat + (beg b).2 then some ([], b)
  else (frames (b.drop ((beg b).1.toNat + (beg b).2))).map fun x => ((b.drop (beg b).1.toNat).take (beg b).2 :: x.1, x.2)
termination_by b.length
decreasing_by simp only [List.length_drop]; omega
theorem frames_wrong {b : List UInt8} (h : (beg b).1 < 0) : frames b = none := by rw [frames, dif_pos h]
theorem frames_end {b : List UInt8} (h : ¬ (beg b).1 < 0) (h2 : (beg b).1 = 0 ∨ b.length < (beg b).1.toNat + (beg b).2) : frames b = some ([], b) := by rw [frames, dif_neg h, dif_pos h2]
theorem frames_step {b : List UInt8} (h : ¬ (beg b).1 < 0) (h2 : ¬ ((beg b).1 = 0 ∨ b.length < (beg b).1.toNat + (beg b).2)) :
    frames b = (frames (b.drop ((beg b).1.toNat + (beg b).2))).map fun x => ((b.drop (beg b).1.toNat).take (beg b).2 :: x.1, x.2) := by conv => lhs; rw [frames, dif_neg h, dif_neg h2]
/-- bytes that come in two parts -/
theorem frames_append : ∀ (n : Nat) (x y : List UInt8), x.length ≤ n → frames (x ++ y) = (frames x).bind fun p => (frames (p.2 ++ y)).map fun q => (p.1 ++ q.1, q.2) := by
  intro n
  induction n with
  | zero =>
    intro x y h
    obtain rfl : x = [] := List.length_eq_zero_iff.1 (by omega)
    have h0 : beg [] = (0, 0) := rfl
    rw [frames_end (b := []) (by rw [h0]; omega) (.inl (by rw [h0]))]
    simp
  | succ n ih =>
    intro x y h
    by_cases h1 : (beg x).1 < 0
    · have hb : beg (x ++ y) = beg x := begGo_append y (by unfold beg at h1; omega)
      rw [frames_wrong h1, frames_wrong (by rw [hb]; exact h1)]
      rfl
    · by_cases h2 : (beg x).1 = 0 ∨ x.length < (beg x).1.toNat + (beg x).2
      · rw [frames_end h1 h2]; simp
      · have hb : beg (x ++ y) = beg x := begGo_append y (by unfold beg at h1 h2; omega)
        have hl : (beg x).1.toNat + (beg x).2 ≤ x.length := by omega
        have hd : (x ++ y).drop ((beg x).1.toNat + (beg x).2) = x.drop ((beg x).1.toNat + (beg x).2) ++ y := List.drop_append_of_le_length hl
        have ht : ((x ++ y).drop (beg x).1.toNat).take (beg x).2 = (x.drop (beg x).1.toNat).take (beg x).2 := by
          rw [List.drop_append_of_le_length (by omega), List.take_append_of_le_length (by simp; omega)]
        rw [frames_step h1 h2, frames_step (by rw [hb]; exact h1) (by rw [hb]; simp only [List.length_append]; omega), hb, hd, ht, ih _ y (by simp only [List.length_drop]; omega)]
        cases frames (x.drop ((beg x).1.toNat + (beg x).2)) with
        | none => rfl
        | some p =>
          simp only [Option.map_some, Option.bind_some]
          cases frames (p.2 ++ y) <;> simp
theorem frames_two (b : List UInt8) (k : Nat) : frames b = (frames (b.take k)).bind fun p => (frames (p.2 ++ b.drop k)).map fun q => (p.1 ++ q.1, q.2) := by
  have := frames_append _ (b.take k) (b.drop k) (Nat.le_refl _)
  rwa [List.take_append_drop] at this
theorem toNat_of (n : Nat) (h : n < 256) : (UInt8.ofNat n).toNat = n := by simp; omega
theorem beg_enc {n : Nat} (h : n ≤ 65536) (y : List UInt8) : beg (encN n ++ y) = (((encN n).length : Int), n) := by
  have one : ∀ (k m v : Nat), k < 3 → v < 128 → (v = 0 → k = 0) → m + v * 128 ^ k ≤ 65536 → ∀ t, begGo k m (UInt8.ofNat v :: t) = ((k : Int) + 1, m + v * 128 ^ k) := by
    intro k m v hk hv h0 hm t
    have e := toNat_of v (by omega)
    have hz : UInt8.ofNat v = 0 → v = 0 := fun h => by have := congrArg UInt8.toNat h; rw [e] at this; simpa using this
    have h1 : ¬ (65536 < m + v * 128 ^ k ∨ (UInt8.ofNat v = 0 ∧ 0 < k)) := by
      rintro (h | ⟨h, h'⟩)
      · omega
      · have := h0 (hz h); omega
    simp only [begGo, e, Nat.mod_eq_of_lt hv]
    rw [if_neg (by omega), if_neg h1, if_pos hv]
  have more : ∀ (k m v : Nat), k < 3 → v < 128 → m + v * 128 ^ k ≤ 65536 → ∀ t, begGo k m (UInt8.ofNat (v + 128) :: t) = begGo (k + 1) (m + v * 128 ^ k) t := by
    intro k m v hk hv hm t
    have e := toNat_of (v + 128) (by omega)
    have hm2 : (v + 128) % 128 = v := by omega
    have hz : ¬ UInt8.ofNat (v + 128) = 0 := fun h => by have := congrArg UInt8.toNat h; rw [e] at this; simp at this
    have h1 : ¬ (65536 < m + v * 128 ^ k ∨ (UInt8.ofNat (v + 128) = 0 ∧ 0 < k)) := by
      rintro (h | ⟨h, h'⟩)
      · omega
      · exact hz h
    simp only [begGo, e, hm2]
    rw [if_neg (by omega), if_neg h1, if_neg (by omega)]
  unfold beg
  by_cases h1 : n < 128
  · rw [encN_lt h1, List.singleton_append, one 0 0 n (by omega) h1 (by omega) (by omega)]
    simp
  · rw [encN_ge (by omega), List.cons_append, more 0 0 (n % 128) (by omega) (by omega) (by omega)]
    by_cases h2 : n / 128 < 128
    · rw [encN_lt h2, List.singleton_append, one 1 _ (n / 128) (by omega) h2 (by omega) (by omega)]
      simp; omega
    · rw [encN_ge (by omega), List.cons_append, more 1 _ (n / 128 % 128) (by omega) (by omega) (by omega)]
      have h3 : n / 128 / 128 < 128 := by omega
      rw [encN_lt h3, List.singleton_append, one 2 _ (n / 128 / 128) (by omega) h3 (by omega) (by omega)]
      simp; omega
/-- frames that are told -/
def framed (l : List (List UInt8)) : List UInt8 := l.flatMap fun b => encN b.length ++ b
theorem frames_framed (l : List (List UInt8)) (h : ∀ b ∈ l, b.length ≤ 65536) : frames (framed l) = some (l, []) := by
  induction l with
  | nil =>
    have h0 : beg [] = (0, 0) := rfl
    exact frames_end (b := []) (by rw [h0]; omega) (.inl (by rw [h0]))
  | cons b l ih =>
    have hb : beg (framed (b :: l)) = (((encN b.length).length : Int), b.length) := by
      simp only [framed, List.flatMap_cons, List.append_assoc]
      exact beg_enc (h b (by simp)) _
    have hpos : 0 < (encN b.length).length := by
      rw [encN]; split <;> simp
    have hl : (framed (b :: l)).length = (encN b.length).length + b.length + (framed l).length := by simp [framed, Nat.add_assoc]
    rw [frames_step (by rw [hb]; omega) (by rw [hb, hl]; simp only [Int.toNat_natCast]; omega), hb]
    have e1 : (framed (b :: l)).drop ((encN b.length).length + b.length) = framed l := by
      simp only [framed, List.flatMap_cons]
      rw [← List.length_append, List.drop_left]
    have e2 : ((framed (b :: l)).drop (encN b.length).length).take b.length = b := by
      simp only [framed, List.flatMap_cons, List.append_assoc]
      rw [List.drop_left, List.take_left]
    simp only [Int.toNat_natCast, e1, e2, ih (fun c hc => h c (by simp [hc]))]
    rfl
end Go.Agg
/-! code.Maker's block; what a step of a maker leaves alone. -/
namespace Go.Agg
open Go.RowKit
theorem encN_len' : ∀ (m n : Nat), 0 < m → n < 128 ^ m → (encN n).length ≤ m := by
  intro m
  induction m with
  | zero => intro n h; omega
  | succ m ih =>
    intro n _ hn
    by_cases h : n < 128
    · rw [encN_lt h]; simp
    · rw [encN_ge (by omega), List.length_cons]
      have hm : 0 < m := by
        rcases Nat.eq_zero_or_pos m with h0 | h0
        · subst h0; simp at hn; omega
        · exact h0
      have := ih (n / 128) hm (by rw [Nat.pow_succ] at hn; exact Nat.div_lt_of_lt_mul (by rw [Nat.mul_comm]; exact hn))
      omega
theorem encN_len {n : Nat} (h : n ≤ 1099511627776) : (encN n).length ≤ 6 := encN_len' 6 n (by omega) (by omega)
section
variable {P : Program} {α : Type} {E : Elem P α} {ops : Array Oper} {rest : List Oper} {o o2 : Oper} {a : Act} {w : World} {Q : Exit → Act → World → Prop} {base : Nat} {v : Value} {l : List α}
/-- where a grown slice lies -/
def Grew (w : World) (v v' : Value) : Prop := ∀ k, v'.ownBlock = some k → v.ownBlock = some k ∨ w.heap.size ≤ k
theorem Grew.refl (w : World) (v : Value) : Grew w v v := fun _ h => .inl h
theorem grew_of {w0 w : World} {v v' : Value} (hs : w0.heap.size ≤ w.heap.size) (h : v'.ownBlock = v.ownBlock ∨ v'.ownBlock = some w.heap.size) : Grew w0 v v' := fun k hk => by
  rcases h with h | h
  · rw [h] at hk; exact .inl hk
  · rw [h] at hk; obtain rfl := Option.some.inj hk; exact .inr hs
theorem wpList_pushO (hg : o.guard = none) (hg2 : o2.guard = none) (d : Tmp) (hd : o.dst = some d) (y : Operand) (ho : o.op = .buildSlice E.st 1 #[(0, y)]) (s : Operand)
    (ho2 : o2.op = .call { callee := .builtin .append, args := #[s, .tmp d], argTypes := #[E.st, E.st] }) (x : α) (hy : a.eval y = E.val x) (hs : ∀ p, (a.put o.dst p).eval s = v) (hsz : d < a.tmps.size)
    (hown : Own E base w v l) (h63 : l.length + 1 ≤ 1099511627776 / 8) (hby : E.bytes ≤ 1000) (hbase : base ≤ w.heap.size)
    (h : ∀ u v' w', Own E base w' v' (l ++ [x]) → Pushed E base w w' v → Grew w v v' → wpList P ops Q rest ((a.put o.dst u).put o2.dst v') w') : wpList P ops Q (o :: o2 :: rest) a w := by
  refine wpList_val hg (v := .slice (some ⟨w.heap.size, 0, none⟩) 1 1) (w' := w.alloc (.cells (E.val x).cells E.ty)) (by simp [execOp, ho, hy, run_slice_one]) ?_
  have hb1 : Below w.heap.size w (w.alloc (.cells (E.val x).cells E.ty)) := (Below.refl _ _).alloc (Nat.le_refl _) _
  have hown1 := hown.below hb1
  obtain ⟨v', w', hrun, h2, h3, h4, _⟩ := run_append (ty := o2.type) hown1 _ [x] (slice_of_block (Blk.new w E.ty (E.val x).cells)) (by simpa using h63) hby (Nat.le_trans hbase hb1.size)
  have hp := pushed_of hown1 h3
  have hpu : Pushed E base w w' v := {
    below := fun B hB hs => (hb1.mono hs).trans (hp.below B hB (Nat.le_trans hs hb1.size))
    other := fun g hlt hne => (hp.other g (Nat.lt_of_lt_of_le hlt hb1.size) hne).trans (hb1.block g hlt)
    blk := fun g t cs fr hne hb => hp.blk g t cs fr hne (keep' hb1 hb)
    map := fun g es c hb => hp.map g es c (keep' hb1 hb)
    size := Nat.le_trans hb1.size hp.size }
  refine wpList_val hg2 (v := v') (w' := w') ?_ (h _ v' w' h2 hpu (grew_of hb1.size h4))
  have e2 : (a.put o.dst (.slice (some ⟨w.heap.size, 0, none⟩) 1 1)).eval (.tmp d) = .slice (some ⟨w.heap.size, 0, none⟩) 1 1 := by rw [hd]; simp [Act.put, Act.eval, hsz]
  simp [execOp, ho2, resolve, invoke, builtin, hs, e2, hrun]
theorem wpList_appendO (hg : o.guard = none) (s x : Operand) (ho : o.op = .call { callee := .builtin .append, args := #[s, x], argTypes := #[E.st, E.st] }) (vx : Value) (hs : a.eval s = v) (hx : a.eval x = vx) (m : List α)
    (hown : Own E base w v l) (hm : SliceOf E w vx m) (h63 : l.length + m.length ≤ 1099511627776 / 8) (hby : E.bytes ≤ 1000) (hbase : base ≤ w.heap.size)
    (h : ∀ v' w', Own E base w' v' (l ++ m) → Pushed E base w w' v → Grew w v v' → wpList P ops Q rest (a.put o.dst v') w') : wpList P ops Q (o :: rest) a w := by
  obtain ⟨v', w', hrun, h2, h3, h4, _⟩ := run_append (ty := o.type) hown _ m hm h63 hby hbase
  refine wpList_val hg (v := v') (w' := w') ?_ (h v' w' h2 (pushed_of hown h3) (grew_of (Nat.le_refl _) h4))
  simp [execOp, ho, resolve, invoke, builtin, hs, hx, hrun]
theorem Pushed.only {w' : World} (h : Pushed E base w w' v) : Only (fun k => v.ownBlock = some k) w w' where
  os := (h.below 0 (Nat.zero_le _) (Nat.zero_le _)).os
  tape := (h.below 0 (Nat.zero_le _) (Nat.zero_le _)).tape
  output := (h.below 0 (Nat.zero_le _) (Nat.zero_le _)).output
  size := h.size
  block := fun k hk hne => h.other k hk (fun e => hne e.symm)
/-- a step of what lies at g, of which the slice v grows -/
structure MkStep (g : Nat) (w w' : World) (v v' : Value) : Prop where
  only : Only (fun k => k = g ∨ v.ownBlock = some k) w w'
  grew : Grew w v v'
variable {g : Nat} {w1 w2 : World} {v1 v2 : Value}
theorem MkStep.refl (g : Nat) (w : World) (v : Value) : MkStep g w w v v := ⟨Only.refl _ _, Grew.refl _ _⟩
theorem MkStep.trans (h : MkStep g w w1 v v1) (k : MkStep g w1 w2 v1 v2) : MkStep g w w2 v v2 where
  only := h.only.trans k.only fun i hi hT => by
    rcases hT with rfl | hT
    · exact .inl rfl
    · rcases h.grew i hT with h | h
      · exact .inr h
      · omega
  grew := fun i hi => by
    rcases k.grew i hi with h1 | h1
    · exact h.grew i h1
    · exact .inr (Nat.le_trans h.only.size h1)
theorem MkStep.later (h : MkStep g w w1 v v1) (hb : Below w1.heap.size w1 w2) : MkStep g w w2 v v1 := ⟨h.only.trans (Only.of_below (S := fun _ => False) hb) (fun _ _ h => h.elim), h.grew⟩
theorem MkStep.of_below (hb : Below w.heap.size w w1) : MkStep g w w1 v v := ⟨(Only.of_below (S := fun _ => False) hb).mono (fun _ _ h => h.elim), Grew.refl _ _⟩
theorem MkStep.below (h : MkStep g w w1 v v1) (hg : g ≤ w.heap.size) (hv : ∀ k, v.ownBlock = some k → g ≤ k) : Below g w w1 := h.only.below hg fun i hi => by
  rcases hi with rfl | hi
  · exact Nat.le_refl _
  · exact hv i hi
/-- a slice that a maker does not touch -/
def Off {β : Type} (F : Elem P β) (g : Nat) (w : World) (mv x : Value) (l : List β) : Prop := SliceOf F w x l ∧ (l = [] ∨ ∀ k, x.ownBlock = some k → k < w.heap.size ∧ k ≠ g ∧ mv.ownBlock ≠ some k)
theorem SliceOf.nil_any {β : Type} {F : Elem P β} {x : Value} (h : SliceOf F w x []) (w' : World) : SliceOf F w' x [] := by
  rcases h with ⟨p, c, rfl, _⟩ | ⟨p, cap, rfl, _⟩
  · exact SliceOf.nil _ _ _
  · exact SliceOf.nil _ _ _
theorem Off.step {β : Type} {F : Elem P β} {x : Value} {l : List β} (h : Off F g w v x l) (k : MkStep g w w1 v v1) : Off F g w1 v1 x l := by
  obtain ⟨h1, rfl | h2⟩ := h
  · exact ⟨h1.nil_any _, .inl rfl⟩
  · refine ⟨h1.onlyS k.only fun b hb hS => ?_, .inr fun b hb => ?_⟩
    · obtain ⟨_, h3, h4⟩ := h2 b hb
      rcases hS with rfl | hS
      · exact h3 rfl
      · exact h4 hS
    · obtain ⟨h5, h3, h4⟩ := h2 b hb
      refine ⟨Nat.lt_of_lt_of_le h5 k.only.size, h3, fun e => ?_⟩
      rcases k.grew b e with h | h
      · exact h4 h
      · omega
theorem Off.slice {β : Type} {F : Elem P β} {x : Value} {l : List β} (h : Off F g w v x l) : SliceOf F w x l := h.1
/-- what was there before the maker -/
theorem Off.before {β : Type} {F : Elem P β} {w0 : World} {x : Value} {l : List β} (h : SliceOf F w0 x l) (hb : Below w0.heap.size w0 w) (hg : w0.heap.size ≤ g) (hv : ∀ k, v.ownBlock = some k → w0.heap.size ≤ k) : Off F g w v x l := by
  refine ⟨h.below hb, ?_⟩
  rcases h with ⟨_, _, _, rfl⟩ | ⟨p, cap, rfl, hp, _⟩
  · exact .inl rfl
  · refine .inr fun k hk => ?_
    obtain rfl : p.block = k := by simpa [Value.ownBlock] using hk
    have := hb.size
    exact ⟨by omega, by omega, fun e => by have := hv _ e; omega⟩
/-- what came behind the maker's last step -/
theorem Off.behind {β : Type} {F : Elem P β} {w0 : World} {x : Value} {l : List β} (h : SliceOf F w x l) (hx : ∀ k, x.ownBlock = some k → w0.heap.size ≤ k) (hg : g < w0.heap.size) (hv : ∀ k, v.ownBlock = some k → k < w0.heap.size) : Off F g w v x l := by
  refine ⟨h, ?_⟩
  rcases h with ⟨_, _, _, rfl⟩ | ⟨p, cap, rfl, hp, _⟩
  · exact .inl rfl
  · refine .inr fun k hk => ?_
    have hk' := hk
    obtain rfl : p.block = k := by simpa [Value.ownBlock] using hk
    have := hx _ hk'
    exact ⟨hp, by omega, fun e => by have := hv _ e; omega⟩
end
end Go.Agg
namespace Go.Proofs.YtniibcgomnjfgaaGreat
open Go.RowKit Pl Go.Agg
def mkC (v : Value) : Array Value := #[v, .bool false]
/-- a maker: its bytes so far -/
structure MkV (g : Nat) (w : World) (v : Value) (b : List UInt8) : Prop where
  blk : Blk w g 107 (mkC v)
  own : Own EB (g + 1) w v b
section
variable {g : Nat} {w w' : World} {v : Value} {b : List UInt8}
theorem MkV.load (h : MkV g w v b) : LoadsL Tryz.prog w 55 (some ⟨g, 0, none⟩) v :=
  h.blk.one (P := Tryz.prog) 0 rfl (by kernel_rfl : Tryz.prog.underlying 55 = some (.slice 5)) rfl
theorem MkV.bad (h : MkV g w v b) : LoadsL Tryz.prog w 4 (some ⟨g, 1, none⟩) (.bool false) :=
  h.blk.one (P := Tryz.prog) 1 rfl Tryz.underlying4 rfl
theorem MkV.below (h : MkV g w v b) (hb : Below w.heap.size w w') : MkV g w' v b := ⟨h.blk.below hb, h.own.below hb⟩
theorem MkV.ge (h : MkV g w v b) : ∀ k, v.ownBlock = some k → g ≤ k := fun k hk => by have := (h.own.block k hk).1; omega
theorem MkV.lt (h : MkV g w v b) : ∀ k, v.ownBlock = some k → k < w.heap.size := fun k hk => by
  obtain ⟨_, cur, hc⟩ := h.own.block k hk
  exact Agg.heap_lt hc
theorem MkV.put {w1 : World} {v1 : Value} {l : List UInt8} (h : MkV g w v b) (ho : Own EB (g + 1) w1 v1 l) (hp : Pushed EB (g + 1) w w1 v) (hgr : Grew w v v1) :
    ∃ w2, (Instr.storeAt 55 (.pointer (some ⟨g, 0, none⟩)) v1).run Tryz.prog w1 = .ok () w2 ∧ MkV g w2 v1 l ∧ MkStep g w w2 v v1 := by
  have h1 : Blk w1 g 107 (mkC v) := hp.blk g _ _ _ (by decide) h.blk
  obtain ⟨p, c, rfl⟩ := ho.slice.form
  refine ⟨_, h1.run_put 0 (by simp [mkC]) _ rfl rfl (by kernel_rfl), ⟨h1.set 0 _, ho.keep fun k cur t fr hk hb => ?_⟩, ⟨?_, hgr⟩⟩
  · rw [Below.heap_setCell _ _ _ _ (by show k ≠ g; omega)]; exact hb
  · refine (hp.only.mono fun _ _ h => .inr h).trans (T := fun k => k = g) ⟨rfl, rfl, rfl, by simp [World.setCell], fun k _ hk => Below.heap_setCell _ _ _ _ hk⟩ fun _ _ h => .inl h
theorem MkV.stepBelow {v1 : Value} (h : MkV g w v b) (hs : MkStep g w w' v v1) : Below g w w' := hs.below (Nat.le_of_lt h.blk.lt) h.ge
end
/-- numbers -/
def EI : Elem Tryz.prog Nat where
  ty := 3
  st := 149
  n := 1
  bytes := 8
  val := fun c => .int .i64 (c : Int)
  zero := .int .i64 0
  pos := by omega
  small := by omega
  size := fun x => rfl
  one := fun x v hv => by
    obtain rfl : v = .int .i64 (x : Int) := by simpa [Value.cells] using hv
    rfl
  zsize := rfl
  slice := by kernel_rfl
  info := info_of (by kernel_rfl) (by kernel_rfl) (by kernel_rfl)
  load := fun w a x hp h => LoadsL.of_cell (by have := h 0 _ rfl; rwa [show a.add 0 = a from rfl] at this) Tryz.underlying3 rfl
theorem ints_len {w : World} {v : Value} {l : List Nat} (h : SliceOf EI w v l) (W : World) : (Builtin.len_ #[149] 3 #[v]).run Tryz.prog W = .ok (.int .i64 (l.length : Int)) W := h.len W
theorem int_at {w : World} {v : Value} {l : List Nat} (h : SliceOf EI w v l) (k : Nat) (x : Nat) (hx : l[k]? = some x) :
    ∃ p : Addr, (∀ W, (Instr.indexAt 149 v (.int .i64 (k : Int))).run Tryz.prog W = .ok (.pointer (some p)) W) ∧ LoadsL Tryz.prog w 3 (some p) (.int .i64 (x : Int)) := by
  obtain ⟨p, h1, _, _, h4⟩ := h.at_ k x hx
  exact ⟨p, h1, h4⟩
end Go.Proofs.YtniibcgomnjfgaaGreat
