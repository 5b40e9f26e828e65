/- Several rows of builts, each in memory of its own. (Several texts in one.) -/
import Derived.Test.YtniibcgomnjfgaaGreatVAJ
import Derived.Test.YtniibcgomnjfgaaGreatVAO
import Derived.Test.YtniibcgomnjfgaaGreatVAC
/-! slices.Clone of what was made; real.owned. -/
namespace Go.Agg
open Go.RowKit
section
variable {P : Program} {α : Type} {E : Elem P α} {base : Nat} {w w' : World} {v : Value} {l : List α}
theorem Own.keepE (h : Own E base w v l) (hk : ∀ (g : Nat) (cur : Array Value) (fr : Nat × Nat), w.heap[g]? = some (Obj.cells cur E.ty fr) → w'.heap[g]? = some (Obj.cells cur E.ty fr)) : Own E base w' v l := by
  obtain ⟨hfl, h | ⟨g, cap, cur, hv, hb, hc, hr⟩⟩ := h
  · exact ⟨hfl, .inl h⟩
  · exact ⟨hfl, .inr ⟨g, cap, cur, hv, hb, hk g cur _ hc, hr⟩⟩
/-- a write into a block of another type -/
theorem Own.onlyT {g : Nat} {t : TypeId} {cs : Array Value} (h : Own E base w v l) (hb : w.heap[g]? = some (.cells cs t (0, 0))) (ht : t ≠ E.ty) (ho : ∀ k, k < w.heap.size → k ≠ g → w'.heap[k]? = w.heap[k]?) : Own E base w' v l :=
  h.keepE fun k cur fr hk => (ho k (heap_lt hk) fun e => by
    subst e
    rw [hb] at hk
    injection hk with hk
    injection hk with _ h2
    exact ht h2).trans hk
theorem Own.pushedT {α' : Type} {E' : Elem P α'} {b' : Nat} {u : Value} (h : Own E base w v l) (hp : Pushed E' b' w w' u) (ht : E.ty ≠ E'.ty) : Own E base w' v l := h.keepE fun g _ _ hg => hp.blk g _ _ _ ht hg
theorem Blk.onlyB {S : Nat → Prop} {g : Nat} {t : TypeId} {cs : Array Value} (h : Blk w g t cs) (ho : Only S w w') (hS : ¬ S g) : Blk w' g t cs := (ho.block g h.lt hS).trans h
end
end Go.Agg
namespace Go.Proofs.YtniibcgomnjfgaaGreat
open Go.RowKit Pl Go.Agg
theorem mnil_is (n c : Nat) (W : World) : (binOp .eql 27 (.slice none n c) (.slice none 0 0)).run Tryz.prog W = .ok (.bool true) W := by kernel_rfl
theorem mnil_not (a : Addr) (n c : Nat) (W : World) : (binOp .eql 27 (.slice (some a) n c) (.slice none 0 0)).run Tryz.prog W = .ok (.bool false) W := by kernel_rfl
set_option maxRecDepth 100000 in
set_option maxHeartbeats 1000000 in
theorem mclone_any (x : Value) (l : List Md) (w : World) (hl : l.length ≤ 1048576) (hx : SliceOf EMd w x l) :
    Calls Tryz.prog 71 #[x] w fun e w' => ∃ v', e = .returned v' ∧ Own EMd w.heap.size w' v' l ∧ Below w.heap.size w w' := by
  have HX := Lib.hid hx
  have h63 : ([] : List Md).length + l.length ≤ 1099511627776 / 8 := by simp; omega
  obtain ⟨q, c, rfl⟩ := hx.form
  cases q with
  | none =>
    have hl0 : l = [] := by
      rcases hx with ⟨_, _, _, h⟩ | ⟨a, cap, e, _⟩
      · exact h
      · injection e with e; cases e
    subst hl0
    have hnl := mnil_is 0 c
    clear hx
    go_enter Tryz.func71, Tryz.ntmps71
    go_wp2_with fail
    go_ret
    exact ⟨_, rfl, Own.nil _ _ _, Below.refl _ _⟩
  | some a =>
    have hnl := mnil_not a l.length c
    clear hx
    go_enter Tryz.func71, Tryz.ntmps71
    go_wp2_with (first | (refine Agg.wpList_slice0 (base := w.heap.size) EMd rfl rfl (Nat.le_refl _) ?_; intro v1 w1 ho1 hx1 _; have HO1 := Lib.hid ho1; have HX1 := Lib.hid (SliceOf.below HX.out hx1); have hsz := hx1.size; clear ho1) | (refine Agg.wpList_appendO (E := EMd) (base := w.heap.size) rfl _ _ rfl (.slice (some a) l.length c) rfl rfl l HO1.out HX1.out h63 (by decide) hsz ?_; intro v2 w2 ho2 hp2 _; have HO2 := Lib.hid ho2; have HP2 := Lib.hid (hx1.trans (hp2.below w.heap.size (Nat.le_refl _) hsz)); clear ho2 hp2))
    go_ret
    exact ⟨_, rfl, by simpa using HO2.out, HP2.out⟩
theorem bC_ins (x : BuV) (iv : IV) : (bC x).setIfInBounds 62 (ivV iv) = bC (x.1, iv) := by
  unfold bC
  rw [Array.setIfInBounds_append_right (by rw [hC_size, x.1.cl.2]; omega), hC_size, x.1.cl.2, Array.setIfInBounds_append_right (by rw [hC_size, x.1.ky.2]; omega), hC_size, x.1.ky.2, Array.setIfInBounds_append_right (by rw [pC_size, x.1.pa.2]; omega), pC_size, x.1.pa.2]
  rfl
theorem buB_ins {w : World} {b : Nat} {x : BuV} (h : Blk w b 29 (bC x)) (iv : IV) : ∃ w', (Instr.storeAt 27 (.pointer (some ⟨b, 62, none⟩)) (ivV iv)).run Tryz.prog w = .ok () w' ∧ Blk w' b 29 (bC (x.1, iv)) ∧ Only (· = b) w w' :=
  h.run_one 62 (by rw [bC_size]; omega) _ rfl rfl (by kernel_rfl) _ (bC_ins x iv)
set_option maxRecDepth 100000 in
set_option maxHeartbeats 4000000 in
theorem owned_any (x : BuV) (w : World) (hl : x.1.ins.length ≤ 1048576) (hi : InsAt w x) :
    Calls Tryz.prog 43 #[.agg (bC x)] w fun e w' => ∃ iv : IV, e = .returned (.agg (bC (x.1, iv))) ∧ Own EMd w.heap.size w' (ivV iv) x.1.ins ∧ Below w.heap.size w w' := by
  have HI := Lib.hid (show MdsAt w (ivV x.2) x.1.ins from hi)
  clear hi
  go_enter Tryz.func43, Tryz.ntmps43
  go_wp2_with (first | (with_reducible refine wpList_box rfl 29 _ rfl (bC x) rfl ?_; intro g1 w1 hb1 hx1 hg1; have HB1 := Lib.hid hb1; have HX1 := Lib.hid hx1; have HG1 := Lib.hid hg1; clear hb1 hx1 hg1) | (with_reducible refine wpList_zero rfl 29 rfl (bC (zB, none, 0, 0)) bC_zero ?_; intro g2 w2 hb2 hx2 hg2; have HB2 := Lib.hid hb2; have HB12 := Lib.hid (HB1.out.below hx2); have HL2 := Lib.hid (BuG.of_blk HB12.out); have HX2 := Lib.hid (Agg.belowThen HX1.out (Nat.le_refl _) hx2); have HG2 := Lib.hid (Nat.le_trans HX1.out.size hg2); have HNE := Lib.hid (show g2 ≠ g1 from fun e => by have := HB1.out.lt; omega); clear hb2 hx2 hg2) | (with_reducible refine wpList_loadL HL2.out.ins rfl _ rfl rfl ?_))
  refine (mclone_any _ x.1.ins w2 hl (HI.out.below HX2.out)).mono ?_
  rintro e w3 ⟨v3, rfl, ho3, hx3⟩
  obtain ⟨ip, ic, rfl⟩ := ho3.slice.form
  obtain ⟨w4, hr4, hb4, ho4⟩ := buB_ins (HB12.out.below hx3) (ip, x.1.ins.length, ic)
  have HO4 := Lib.hid (ho3.onlyT (HB12.out.below hx3) (by decide) (fun k h1 h2 => ho4.block k h1 h2))
  have HB24 := Lib.hid ((HB2.out.below hx3).onlyB ho4 HNE.out)
  have HL4 := Lib.hid (BuG.of_blk hb4)
  have HX3 := Lib.hid (Agg.belowThen HX2.out (Nat.le_refl _) hx3)
  have HX4 := Lib.hid (HX3.out.trans (ho4.below (B := w.heap.size) HX3.out.size (fun i hi => by subst hi; exact HG1.out)))
  have HR4 := Lib.hid (show (Instr.storeAt 27 (.pointer (some ⟨g1, 62, none⟩)) (.slice ip x.1.ins.length ic)).run Tryz.prog w3 = .ok () w4 from hr4)
  have HS2 := Lib.hid HX2.out.size
  clear ho3 hx3 hr4 hb4 ho4
  go_wp2_with (first | (with_reducible refine wpList_store rfl rfl 27 _ _ rfl (.pointer (some ⟨g1, 62, none⟩)) (.slice ip x.1.ins.length ic) rfl rfl HR4.out ?_) | (with_reducible refine wpList_loadL HL4.out.all rfl _ rfl rfl ?_) | ((with_reducible refine wpList_put rfl rfl 29 _ _ rfl g2 (bC (x.1, ip, x.1.ins.length, ic)) (bC (zB, none, 0, 0)) rfl rfl HB24.out (bC_info _) (by rw [bC_size, bC_size]) (bC_one _) ?_); intro w5 hb5 hx5 hs5 hk5; have HB5 := Lib.hid hb5; have HO5 := Lib.hid (HO4.out.onlyT HB24.out (by decide) (fun k _ h2 => hk5 k h2)); have HX5 := Lib.hid (HX4.out.trans (hx5.mono HG2.out)); clear hb5 hx5 hs5 hk5))
  exact post_row rfl rfl HB5.out bC_under rfl (bC_info _) rfl ⟨(ip, x.1.ins.length, ic), rfl, HO5.out.lower HS2.out, HX5.out⟩
end Go.Proofs.YtniibcgomnjfgaaGreat
/-! real.some, where all are asked for. -/
namespace Go.Proofs.YtniibcgomnjfgaaGreat
open Go.RowKit Pl Go.Agg
/-- in blocks apart -/
def ApartI (x y : BuV) : Prop := ∀ b, (ivV x.2).ownBlock = some b → (ivV y.2).ownBlock ≠ some b
theorem ApartI.symm {x y : BuV} (h : ApartI x y) : ApartI y x := fun b h1 h2 => h b h2 h1
/-- builts in memory of the call's own, each with inputs of its own -/
structure OwnBus (base : Nat) (w : World) (v : Value) (l : List BuV) : Prop where
  row : Own EBu base w v l
  ins : ∀ x ∈ l, Own EMd base w (ivV x.2) x.1.ins
  dist : l.Pairwise ApartI
theorem OwnBus.at_ {base : Nat} {w : World} {v : Value} {l : List BuV} (h : OwnBus base w v l) : BusAt w v l := ⟨h.row.slice, fun x hx => (h.ins x hx).slice⟩
theorem OwnBus.below {base : Nat} {w w' : World} {v : Value} {l : List BuV} (h : OwnBus base w v l) (hb : Below w.heap.size w w') : OwnBus base w' v l := ⟨h.row.below hb, fun x hx => (h.ins x hx).below hb, h.dist⟩
theorem OwnBus.lower {base b' : Nat} {w : World} {v : Value} {l : List BuV} (h : OwnBus base w v l) (hb : b' ≤ base) : OwnBus b' w v l := ⟨h.row.lower hb, fun x hx => (h.ins x hx).lower hb, h.dist⟩
theorem OwnBus.nil (base : Nat) (w : World) : OwnBus base w (.slice none 0 0) [] := ⟨Own.nil _ _ _, by simp, by simp⟩
/-- what lies behind all that there was lies apart from it -/
theorem OwnBus.fresh {base B : Nat} {w w2 : World} {v : Value} {l : List BuV} {x : BuV} (h : OwnBus base w v l) (hB : w.heap.size ≤ B) (hx : Own EMd B w2 (ivV x.2) x.1.ins) : ∀ y ∈ l, ApartI y x := fun y hy b h1 h2 => by
  obtain ⟨_, cur, hc⟩ := (h.ins y hy).block b h1
  have := heap_lt hc
  have := (hx.block b h2).1
  omega
theorem OwnBus.push {base : Nat} {w w' : World} {v v' : Value} {l : List BuV} {x : BuV} (h : OwnBus base w v l) (hx : Own EMd base w (ivV x.2) x.1.ins) (hf : ∀ y ∈ l, ApartI y x) (hr : Own EBu base w' v' (l ++ [x])) (hp : Pushed EBu base w w' v) : OwnBus base w' v' (l ++ [x]) :=
  ⟨hr, fun y hy => by
    rcases List.mem_append.1 hy with hy | hy
    · exact (h.ins y hy).pushedT hp (by decide)
    · obtain rfl := List.mem_singleton.1 hy
      exact hx.pushedT hp (by decide), List.pairwise_append.2 ⟨h.dist, by simp, fun y hy z hz => by obtain rfl := List.mem_singleton.1 hz; exact hf y hy⟩⟩
theorem addTrue_any (x : BuV) (w : World) : Calls Tryz.prog 41 #[.agg (bC x)] w fun e w' => e = .returned (.bool true) ∧ Below w.heap.size w w' := by
  go_enter Tryz.func41, Tryz.ntmps41
  go_wp2_with (first | (with_reducible refine wpList_box rfl 29 _ rfl (bC x) rfl ?_; intro g1 w1 hb1 hx1 hg1; have HX1 := Lib.hid hx1; clear hb1 hx1 hg1))
  go_ret
  exact ⟨rfl, HX1.out⟩
set_option maxRecDepth 100000 in
set_option maxHeartbeats 4000000 in
theorem someAll_any (v : Value) (l : List BuV) (hn : l.length ≤ 1048576) (hni : ∀ x ∈ l, x.1.ins.length ≤ 1048576) (w : World) (hs : BusAt w v l) :
    Calls Tryz.prog 40 #[v, .func (.func 41) #[] #[]] w fun e w' => ∃ v' lv, e = .returned v' ∧ OwnBus w.heap.size w' v' lv ∧ lv.map (·.1) = l.map (·.1) ∧ Below w.heap.size w w' := by
  have HS := Lib.hid hs
  have hlv := fun W => bus_len hs W
  clear hs
  go_enter Tryz.func40, Tryz.ntmps40
  go_wp2_with fail
  go_loopw [4, 9] (fun out i wr => ∃ (k : Nat) (lv : List BuV), k ≤ l.length ∧ i = .int .i64 k ∧ OwnBus w.heap.size wr out lv ∧ lv.map (·.1) = (l.take k).map (·.1) ∧ Below w.heap.size w wr) (fun _ i _ => l.length - (intOf i).toNat)
  case atStart => exact ⟨0, [], by omega, rfl, OwnBus.nil _ _, rfl, Below.refl _ _⟩
  case round =>
    obtain ⟨wr1, rfl⟩ : ∃ y : World, y = wr := ⟨_, rfl⟩
    obtain ⟨k, lv, hk, rfl, ho, hm, hw⟩ := hrel
    have hll : lv.length ≤ 1048576 := by have := congrArg List.length hm; simp at this; omega
    have HO := Lib.hid ho
    have HM := Lib.hid hm
    have HW := Lib.hid hw
    clear hm hw ho
    by_cases hlt : k < l.length
    · have hd : decide ((k : Int) < (l.length : Int)) = true := by simp; omega
      obtain ⟨x, hxk⟩ : ∃ x, l[k]? = some x := ⟨_, List.getElem?_eq_getElem hlt⟩
      obtain ⟨q, hadr, hq, hin⟩ := (HS.out.below HW.out).at_ k x hxk
      have HNI := Lib.hid (hni x (List.mem_of_getElem? hxk))
      have HQ := Lib.hid hq
      have HX := Lib.hid hxk
      have HI := Lib.hid hin
      clear hq hxk hin
      go_wp2_with (first | (with_reducible refine wpList_loadL HQ.out.all rfl _ rfl rfl ?_) | (refine wpList_new rfl rfl rfl 29 6 12 rfl rfl rfl (by decide) (bC (zB, none, 0, 0)) (bC x) bC_zero (by rw [bC_size, bC_size]) (bC_info x) (bC_one x) rfl (by simp [Act.put]) ?_; intro g2 w2 hb2 hx2 hg2; have HL2 := Lib.hid (BuG.of_blk hb2); have HX2 := Lib.hid hx2; clear hb2 hx2 hg2) | (with_reducible refine wpList_loadL HL2.out.all rfl _ rfl rfl ?_))
      refine (addTrue_any x _).mono ?_
      rintro e w3 ⟨rfl, hx3⟩
      have HL3 := Lib.hid (HL2.out.below hx3)
      have HX3 := Lib.hid (Agg.belowThen HX2.out (Nat.le_refl _) hx3)
      clear hx3
      go_wp2_with (first | (with_reducible refine wpList_loadL HL3.out.all rfl _ rfl rfl ?_))
      refine (owned_any x w3 HNI.out (HI.out.below HX3.out)).mono ?_
      rintro e w4 ⟨iv, rfl, ho4, hx4⟩
      have hX4 := Agg.belowThen HX3.out (Nat.le_refl _) hx4
      have hW4 := Agg.belowThen HW.out (Nat.le_refl _) hX4
      have HO4 := Lib.hid (HO.out.below hX4)
      have HN4 := Lib.hid (ho4.lower (Agg.belowThen HW.out (Nat.le_refl _) HX3.out).size)
      have HF4 := Lib.hid (HO.out.fresh (x := (x.1, iv)) HX3.out.size ho4)
      have HW4 := Lib.hid hW4
      clear ho4 hx4 hX4 hW4
      go_wp2_with (first | (refine wpList_push (E := EBu) (base := w.heap.size) rfl rfl 19 rfl _ rfl _ rfl (x.1, iv) rfl (fun _ => rfl) (by simp) HO4.out.row (by omega) (by decide) HW4.out.size ?_; intro u5 v5 w5 ho5 hp5; have HO5 := Lib.hid (HO4.out.push (x := (x.1, iv)) HN4.out HF4.out ho5 hp5); have HW5 := Lib.hid (HW4.out.trans (hp5.below w.heap.size (Nat.le_refl _) HW4.out.size)); clear ho5 hp5))
      go_roundw
      case rel => exact ⟨k + 1, lv ++ [(x.1, iv)], by omega, by go_num, HO5.out, by rw [List.take_add_one, HX.out]; simp [HM.out], HW5.out⟩
      case measure => simp [intOf]; omega
    · obtain rfl : k = l.length := by omega
      go_wp2_with fail
      go_ret
      exact ⟨_, rfl, lv, HO.out, by rw [HM.out, List.take_length], HW.out⟩
end Go.Proofs.YtniibcgomnjfgaaGreat
/-! Blocks that a step leaves alone. -/
namespace Go.Agg
open Go.RowKit
variable {P : Program}
theorem Blk.type {w : World} {g : Nat} {t t' : TypeId} {cs cs' : Array Value} (h : Blk w g t cs) (h' : Blk w g t' cs') : t = t' := by
  unfold Blk at h h'
  rw [h] at h'
  injection h' with h'
  injection h' with _ h'
theorem Blk.only {w w' : World} {S : Nat → Prop} {g : Nat} {t : TypeId} {cs : Array Value} (h : Blk w g t cs) (ho : Only S w w') (hS : ¬ S g) : Blk w' g t cs := (ho.block g h.lt hS).trans h
theorem Only.of_eq {w w' : World} {g : Nat} {S : Nat → Prop} (hb : Below g w w') (hs : w'.heap.size = w.heap.size) (hk : ∀ k, k ≠ g → w'.heap[k]? = w.heap[k]?) (hg : S g) : Only S w w' :=
  ⟨hb.os, hb.tape, hb.output, Nat.le_of_eq hs.symm, fun k _ hn => hk k (fun e => hn (e ▸ hg))⟩
end Go.Agg
/-! (*bag).putMades, oneBuilt, putBuilts; ApartBuilts. -/
namespace Go.Proofs.YtniibcgomnjfgaaGreat
open Go.RowKit Pl Go.Agg
/-- a built's inputs as a slice -/
def insSV (x : BuV) : SV := ⟨ivV x.2, x.2.1, x.2.2.1, x.2.2.2, rfl⟩
theorem ss_nil (b : Nat) : ¬ SS [] b := fun ⟨i, u, h, _⟩ => by simp at h
theorem rooms_nil {α : Type} {E : Elem Tryz.prog α} {w : World} (f : Nat → List α) : RoomsOf E w [] f := fun k v h => by simp at h
theorem dist_nil : Dist [] := fun i j u v h => by simp at h
theorem apartMU_any (b : Nat) (vp vr : Value) (vs us : List SV) (f : Nat → List Md) (g : Nat → List BuV) (w : World) (hg : Blk w b 100 (bagK (.slice none 0 0) vp vr)) (hgS : ¬ (SS vs b ∨ SS us b)) (hp : SliceOf EMM w vp vs) (hq : SliceOf EUU w vr us) (hr : RoomsOf EMd w vs f) (hs : RoomsOf EBu w us g) (hd : Dist vs) (he : Dist us)
    (hx : ∀ b, SS us b → ¬ SS vs b) (hsp : ∀ b, vp.ownBlock = some b → ¬ (SS vs b ∨ SS us b)) (hsr : ∀ b, vr.ownBlock = some b → ¬ (SS vs b ∨ SS us b)) (hn : vs.length ≤ 4194304) (hm : us.length ≤ 4194304) (hf : ∀ j, (f j).length ≤ 8388608) (hgl : ∀ j, (g j).length ≤ 8388608) :
    Calls Tryz.prog 55 #[.pointer (some ⟨b, 0, none⟩)] w fun e w' => e = .returned (.bool true) ∧ Only (fun b => SS vs b ∨ SS us b) w w' ∧ True := by
  have hno : ∀ b, (SS [] b ∨ SS vs b ∨ SS us b) ↔ (SS vs b ∨ SS us b) := fun b => ⟨fun h => h.elim (fun h => absurd h (ss_nil b)) id, .inr⟩
  refine (apartK_any b (.slice none 0 0) vp vr [] vs us (fun _ => []) f g w hg (fun h => hgS ((hno b).1 h)) (SliceOf.nil _ _ _) hp hq (rooms_nil _) hr hs dist_nil hd he
    (fun b h => absurd h (ss_nil b)) (fun b h => absurd h (ss_nil b)) (fun b _ h => ss_nil b h) (fun b h1 h2 => hx b h2 h1) (fun b _ h => ss_nil b h) hx
    (fun b h => by simp [Value.ownBlock] at h) (fun b hb h => hsp b hb ((hno b).1 h)) (fun b hb h => hsr b hb ((hno b).1 h)) (by simp) hn hm (fun _ => by simp) hf hgl).mono ?_
  rintro e w' ⟨rfl, h, _⟩
  exact ⟨rfl, h.mono fun b _ h => (hno b).1 h, trivial⟩
theorem apartPP_any (b : Nat) (vp : Value) (vs : List SV) (f : Nat → List P20) (w : World) (hg : Blk w b 100 (bagK vp (.slice none 0 0) (.slice none 0 0))) (hgS : ¬ SS vs b) (hp : SliceOf EPP w vp vs) (hr : RoomsOf E20 w vs f) (hd : Dist vs)
    (hsp : ∀ b, vp.ownBlock = some b → ¬ SS vs b) (hn : vs.length ≤ 4194304) (hf : ∀ j, (f j).length ≤ 8388608) :
    Calls Tryz.prog 55 #[.pointer (some ⟨b, 0, none⟩)] w fun e w' => e = .returned (.bool true) ∧ Only (SS vs) w w' := by
  have hno : ∀ b, (SS vs b ∨ SS [] b ∨ SS [] b) ↔ SS vs b := fun b => ⟨fun h => h.elim id fun h => absurd h (fun h => h.elim (ss_nil b) (ss_nil b)), .inl⟩
  refine (apartK_any b vp (.slice none 0 0) (.slice none 0 0) vs [] [] f (fun _ => []) (fun _ => []) w hg (fun h => hgS ((hno b).1 h)) hp (SliceOf.nil _ _ _) (SliceOf.nil _ _ _) hr (rooms_nil _) (rooms_nil _) hd dist_nil dist_nil
    (fun b _ h => ss_nil b h) (fun b _ h => ss_nil b h) (fun b h => absurd h (ss_nil b)) (fun b h => absurd h (ss_nil b)) (fun b h => absurd h (ss_nil b)) (fun b h => absurd h (ss_nil b))
    (fun b hb h => hsp b hb ((hno b).1 h)) (fun b h => by simp [Value.ownBlock] at h) (fun b h => by simp [Value.ownBlock] at h) hn (by simp) (by simp) hf (fun _ => by simp) (fun _ => by simp)).mono ?_
  rintro e w' ⟨rfl, h, _⟩
  exact ⟨rfl, h.mono fun b _ h => (hno b).1 h⟩
/-- a bag at g: rows of paths, rows of replies -/
structure BgU (g : Nat) (w : World) (vp vr : Value) (ps us : List SV) : Prop where
  blk : Blk w g 100 (bagK (.slice none 0 0) vp vr)
  paths : Own EMM (g + 1) w vp ps
  reps : Own EUU (g + 1) w vr us
theorem BgU.below {g : Nat} {w w' : World} {vp vr : Value} {ps us : List SV} (h : BgU g w vp vr ps us) (hb : Below w.heap.size w w') : BgU g w' vp vr ps us := ⟨h.blk.below hb, h.paths.below hb, h.reps.below hb⟩
theorem BgU.pushP {w w1 : World} {g : Nat} {vp vr v1 : Value} {ps us l : List SV} (h : BgU g w vp vr ps us) (ho : Own EMM (g + 1) w1 v1 l) (hp : Pushed EMM (g + 1) w w1 vp) :
    ∃ w2, (Instr.storeAt 96 (.pointer (some ⟨g, 17, none⟩)) v1).run Tryz.prog w1 = .ok () w2 ∧ BgU g w2 v1 vr l us ∧ Below g w w2 := by
  have h1 : Blk w1 g 100 (bagK (.slice none 0 0) vp vr) := hp.blk g _ _ _ (by decide) h.blk
  have hr : Own EUU (g + 1) w1 vr us := h.reps.keepE fun k cur fr hk => hp.blk k _ _ _ (by decide) hk
  obtain ⟨p, c, rfl⟩ := ho.slice.form
  refine ⟨_, h1.run_put 17 (by simp [bagK]) _ rfl rfl (by kernel_rfl), ⟨h1.set 17 _, ho.keep fun k cur t fr hk hb => ?_, hr.keep fun k cur t fr hk hb => ?_⟩, ?_⟩
  · rw [Below.heap_setCell _ _ _ _ (by show k ≠ g; omega)]; exact hb
  · rw [Below.heap_setCell _ _ _ _ (by show k ≠ g; omega)]; exact hb
  · exact (hp.below g (by omega) (Nat.le_of_lt h.blk.lt)).setCell (Nat.le_refl _) _
theorem BgU.pushR {w w1 : World} {g : Nat} {vp vr v1 : Value} {ps us l : List SV} (h : BgU g w vp vr ps us) (ho : Own EUU (g + 1) w1 v1 l) (hp : Pushed EUU (g + 1) w w1 vr) :
    ∃ w2, (Instr.storeAt 48 (.pointer (some ⟨g, 18, none⟩)) v1).run Tryz.prog w1 = .ok () w2 ∧ BgU g w2 vp v1 ps l ∧ Below g w w2 := by
  have h1 : Blk w1 g 100 (bagK (.slice none 0 0) vp vr) := hp.blk g _ _ _ (by decide) h.blk
  have hr : Own EMM (g + 1) w1 vp ps := h.paths.keepE fun k cur fr hk => hp.blk k _ _ _ (by decide) hk
  obtain ⟨p, c, rfl⟩ := ho.slice.form
  refine ⟨_, h1.run_put 18 (by simp [bagK]) _ rfl rfl (by kernel_rfl), ⟨h1.set 18 _, hr.keep fun k cur t fr hk hb => ?_, ho.keep fun k cur t fr hk hb => ?_⟩, ?_⟩
  · rw [Below.heap_setCell _ _ _ _ (by show k ≠ g; omega)]; exact hb
  · rw [Below.heap_setCell _ _ _ _ (by show k ≠ g; omega)]; exact hb
  · exact (hp.below g (by omega) (Nat.le_of_lt h.blk.lt)).setCell (Nat.le_refl _) _
set_option maxRecDepth 100000 in
set_option maxHeartbeats 1000000 in
theorem putMades_any (g : Nat) (vp vr : Value) (ps us : List SV) (x : SV) (w : World) (h : BgU g w vp vr ps us) (hn : ps.length ≤ 4194304) :
    Calls Tryz.prog 116 #[.pointer (some ⟨g, 0, none⟩), x.1] w fun e w' => (∃ r, e = .returned r) ∧ ∃ v', BgU g w' v' vr (ps ++ [x]) us ∧ Below g w w' := by
  have HL := Lib.hid (h.blk.one (P := Tryz.prog) 17 rfl (by kernel_rfl : Tryz.prog.underlying 96 = some (.slice 27)) rfl : LoadsL Tryz.prog w 96 (some ⟨g, 17, none⟩) vp)
  have HG := Lib.hid h
  have hlt := h.blk.lt
  have h63 : ps.length + 1 ≤ 1099511627776 / 8 := by omega
  have hbase : g + 1 ≤ w.heap.size := hlt
  clear h
  go_enter Tryz.func116, Tryz.ntmps116
  go_wp2_with (first | (with_reducible refine Agg.wpList_loadL HL.out rfl _ rfl rfl ?_) | (refine Agg.wpList_push (E := EMM) (base := g + 1) rfl rfl 10 rfl _ rfl _ rfl x rfl (fun _ => rfl) (by simp) HG.out.paths h63 (by decide) hbase ?_; intro u1 v1 w1 ho1 hp1; obtain ⟨w2, hrun, hfin⟩ := HG.out.pushP ho1 hp1; have HFIN := Lib.hid hfin; clear ho1 hp1 hfin) | (refine Agg.wpList_store rfl rfl 96 _ _ rfl (.pointer (some ⟨g, 17, none⟩)) _ rfl rfl hrun ?_))
  refine bodyPost_end (results_none rfl _ _ _) rfl ?_
  exact ⟨⟨_, rfl⟩, _, HFIN.out.1, HFIN.out.2⟩
set_option maxRecDepth 100000 in
set_option maxHeartbeats 1000000 in
theorem oneBuilt_any (g : Nat) (vp vr : Value) (ps us : List SV) (x : BuV) (w : World) (h : BgU g w vp vr ps us) (hn : ps.length ≤ 4194304) :
    Calls Tryz.prog 78 #[.pointer (some ⟨g, 0, none⟩), .agg (bC x)] w fun e w' => (∃ r, e = .returned r) ∧ ∃ v', BgU g w' v' vr (ps ++ [(insSV x)]) us ∧ Below g w w' := by
  have HG := Lib.hid h
  have hgw := h.blk.lt
  clear h
  go_enter Tryz.func78, Tryz.ntmps78
  go_wp2_with (first | (refine Agg.wpList_box rfl 29 _ rfl (bC x) rfl ?_; intro b w1 hb1 hx1 hgb; have HL := Lib.hid (BuG.of_blk hb1); have HW := Lib.hid hx1; clear hb1 hx1 hgb) | (with_reducible refine Agg.wpList_loadL HL.out.ins rfl _ rfl rfl ?_))
  refine (putMades_any g vp vr ps us (insSV x) _ (HG.out.below HW.out) hn).mono ?_
  rintro e w2 ⟨⟨r, rfl⟩, v2, h2, hx2⟩
  have H2 := Lib.hid h2
  have HX2 := Lib.hid ((HW.out.mono (Nat.le_of_lt hgw)).trans hx2)
  clear h2 hx2
  go_wp2_with fail
  refine bodyPost_end (results_none rfl _ _ _) rfl ?_
  exact ⟨⟨_, rfl⟩, _, H2.out, HX2.out⟩
set_option maxRecDepth 100000 in
set_option maxHeartbeats 2000000 in
theorem putBuilts_any (g : Nat) (vp vr : Value) (ps us : List SV) (x : SV) (l : List BuV) (w0 w : World) (h : BgU g w vp vr ps us) (hg0 : w0.heap.size ≤ g) (hw0 : Below w0.heap.size w0 w) (hx : SliceOf EBu w0 x.1 l) (hn : ps.length + l.length ≤ 4194304) (hm : us.length ≤ 4194304) :
    Calls Tryz.prog 54 #[.pointer (some ⟨g, 0, none⟩), x.1] w fun e w' => (∃ r, e = .returned r) ∧ ∃ v' u', BgU g w' v' u' (ps ++ l.map insSV) (us ++ [x]) ∧ Below g w w' := by
  have HL := Lib.hid (h.blk.one (P := Tryz.prog) 18 rfl (by kernel_rfl : Tryz.prog.underlying 48 = some (.slice 22)) rfl : LoadsL Tryz.prog w 48 (some ⟨g, 18, none⟩) vr)
  have HG := Lib.hid h
  have HX := Lib.hid hx
  have HW0 := Lib.hid hw0
  have hlx := fun W => xlen_U hx W
  have hlt := h.blk.lt
  have h63 : us.length + 1 ≤ 1099511627776 / 8 := by omega
  have hbase : g + 1 ≤ w.heap.size := hlt
  clear h hx hw0
  go_enter Tryz.func54, Tryz.ntmps54
  go_wp2_with (first | (with_reducible refine Agg.wpList_loadL HL.out rfl _ rfl rfl ?_) | (refine Agg.wpList_push (E := EUU) (base := g + 1) rfl rfl 11 rfl _ rfl _ rfl x rfl (fun _ => rfl) (by simp) HG.out.reps h63 (by decide) hbase ?_; intro u1 v1 w1 ho1 hp1; obtain ⟨w2, hrun, hfin⟩ := HG.out.pushR ho1 hp1; have HFIN := Lib.hid hfin; clear ho1 hp1 hfin) | (refine Agg.wpList_store rfl rfl 48 _ _ rfl (.pointer (some ⟨g, 18, none⟩)) _ rfl rfl hrun ?_))
  go_loopw [4] (fun i wr => ∃ (k : Nat) (v' : Value), k ≤ l.length ∧ i = .int .i64 k ∧ BgU g wr v' v1 (ps ++ (l.take k).map insSV) (us ++ [x]) ∧ Below g w wr) (fun i _ => l.length - (intOf i).toNat)
  case atStart => exact ⟨0, _, by omega, rfl, by simpa using HFIN.out.1, HFIN.out.2⟩
  case round =>
    obtain ⟨w3, rfl⟩ : ∃ w3 : World, w3 = wr := ⟨_, rfl⟩
    obtain ⟨k, v', hk, rfl, hb, hw⟩ := hrel
    have HB := Lib.hid hb
    have HW := Lib.hid hw
    have HWW := Lib.hid (HW0.out.trans (hw.mono hg0))
    have hkl : ((l.take k).map insSV).length ≤ k := by rw [List.length_map]; exact List.length_take_le _ _
    clear hb hw
    by_cases hlt : k < l.length
    · obtain ⟨y, hyk⟩ : ∃ y, l[k]? = some y := ⟨_, List.getElem?_eq_getElem hlt⟩
      obtain ⟨q, hadr, hld⟩ := xat_U (SliceOf.below HX.out HWW.out) k y hyk
      have HLY := Lib.hid (show LoadsL Tryz.prog _ 29 (some q) (.agg (bC y)) from hld)
      have HYK := Lib.hid hyk
      clear hld hyk
      go_wp2_with (first | (with_reducible refine Agg.wpList_loadL HLY.out rfl _ rfl rfl ?_))
      refine (oneBuilt_any g v' v1 _ (us ++ [x]) y _ HB.out (by rw [List.length_append]; omega)).mono ?_
      rintro e w4 ⟨⟨r, rfl⟩, v4, h4, hx4⟩
      have ht : (ps ++ (l.take k).map insSV) ++ [(insSV y)] = ps ++ (l.take (k + 1)).map insSV := by rw [List.take_add_one, HYK.out, List.append_assoc]; simp
      rw [ht] at h4
      have H4 := Lib.hid h4
      have HX4 := Lib.hid (HW.out.trans hx4)
      clear h4 hx4 ht
      go_wp2_with fail
      go_roundw
      case rel => exact ⟨k + 1, v4, by omega, by go_num, H4.out, HX4.out⟩
      case measure => simp [intOf]; omega
    · obtain rfl : k = l.length := by omega
      rw [List.take_length] at HB
      go_wp2_with fail
      refine bodyPost_end (results_none rfl _ _ _) rfl ?_
      exact ⟨⟨_, rfl⟩, _, _, HB.out, HW.out⟩
set_option maxRecDepth 100000 in
set_option maxHeartbeats 2000000 in
theorem apartBuilts_any (v0 : Value) (us : List SV) (fs : List (List BuV)) (f : Nat → List Md) (w : World) (he : SliceOf EUU w v0 us) (hl : us.length = fs.length) (hs : RoomsOf EBu w us fun k => (fs[k]?).getD []) (hr : RoomsOf EMd w (fs.flatMap fun l => l.map insSV) f)
    (hd : Dist (fs.flatMap fun l => l.map insSV)) (hdu : Dist us) (hx : ∀ b, SS us b → ¬ SS (fs.flatMap fun l => l.map insSV) b) (hn : (fs.flatMap fun l => l.map insSV).length ≤ 1048576) (hm : us.length ≤ 1048576) (hf : ∀ j, (f j).length ≤ 8388608) (hgl : ∀ j : Nat, ((fs[j]?).getD []).length ≤ 1048576) :
    Calls Tryz.prog 24 #[v0] w fun e w' => e = .returned (.bool true) ∧ Only (fun b => SS (fs.flatMap fun l => l.map insSV) b ∨ SS us b) w w' := by
  have hlv := fun W => xxlen_U he W
  have HE := Lib.hid he
  have HS := Lib.hid hs
  have HR := Lib.hid hr
  have HD := Lib.hid hd
  have HDU := Lib.hid hdu
  have HXX := Lib.hid hx
  have hbld : ∀ W, (Instr.build 100 #[]).run Tryz.prog W = .ok (.agg (bagK (.slice none 0 0) (.slice none 0 0) (.slice none 0 0))) W := fun W => by kernel_rfl
  have HBLD := Lib.hid hbld
  have hpre : ∀ k, ((fs.take k).flatMap fun l => l.map insSV).length ≤ (fs.flatMap fun l => l.map insSV).length := fun k => by
    conv => rhs; rw [← List.take_append_drop k fs, List.flatMap_append, List.length_append]
    omega
  clear he hs hr hd hdu hx hbld
  go_enter Tryz.func24, Tryz.ntmps24
  go_wp2_with (first | (with_reducible refine Agg.wpList_build0 100 rfl rfl (.agg (bagK (.slice none 0 0) (.slice none 0 0) (.slice none 0 0))) HBLD.out ?_) | (with_reducible refine Agg.wpList_box rfl 100 _ rfl (bagK (.slice none 0 0) (.slice none 0 0) (.slice none 0 0)) rfl ?_; intro g w1 hb1 hx1 hlt1))
  go_loopw [4] (fun i wr => ∃ (k : Nat) (v u : Value), k ≤ us.length ∧ i = .int .i64 k ∧ BgU g wr v u ((fs.take k).flatMap fun l => l.map insSV) (us.take k) ∧ Below w.heap.size w wr) (fun i _ => us.length - (intOf i).toNat)
  case atStart => exact ⟨0, _, _, by omega, rfl, ⟨hb1, by simpa using Own.nil EMM _ _, by simpa using Own.nil EUU _ _⟩, hx1⟩
  case round =>
    clear hb1 hx1
    obtain ⟨w2, rfl⟩ : ∃ w2 : World, w2 = wr := ⟨_, rfl⟩
    obtain ⟨k, v, u, hk, rfl, hb, hw⟩ := hrel
    have HB := Lib.hid hb
    have HW := Lib.hid hw
    clear hb hw
    by_cases hlt : k < us.length
    · obtain ⟨x, hxk⟩ : ∃ x, us[k]? = some x := ⟨_, List.getElem?_eq_getElem hlt⟩
      obtain ⟨l, hlk⟩ : ∃ l, fs[k]? = some l := ⟨_, List.getElem?_eq_getElem (by omega)⟩
      obtain ⟨q, hadr, hld⟩ := xxat_U (SliceOf.below HE.out HW.out) k x hxk
      have hrow : RoomN EBu w x.1 ((fs[k]?).getD []) := HS.out k x hxk
      rw [hlk] at hrow
      have hrow : RoomN EBu w x.1 l := hrow
      have HROW := Lib.hid hrow.slice
      have HL := Lib.hid hld
      have HXK := Lib.hid hxk
      have HLK := Lib.hid hlk
      have hkl : (us.take k).length ≤ k := List.length_take_le _ _
      have hp := hpre (k + 1)
      have ht2 : (fs.take (k + 1)).flatMap (fun l => l.map insSV) = (fs.take k).flatMap (fun l => l.map insSV) ++ l.map insSV := by rw [List.take_add_one, HLK.out]; simp
      have hp2 : ((fs.take k).flatMap fun l => l.map insSV).length + l.length ≤ 1048576 := by rw [ht2, List.length_append, List.length_map] at hp; omega
      have HT2 := Lib.hid ht2
      clear hxk hlk hld hrow hp ht2
      go_wp2_with (first | (with_reducible refine Agg.wpList_loadL HL.out rfl _ rfl rfl ?_))
      refine (putBuilts_any g v u _ (us.take k) x l w w2 HB.out hlt1 HW.out HROW.out (by omega) (by omega)).mono ?_
      rintro e w3 ⟨⟨r, rfl⟩, v3, u3, h3, hx3⟩
      have ht : us.take k ++ [x] = us.take (k + 1) := by rw [List.take_add_one, HXK.out]; rfl
      rw [ht, ← HT2.out] at h3
      have H3 := Lib.hid h3
      have HX3 := Lib.hid (HW.out.trans (hx3.mono hlt1))
      clear h3 hx3 ht
      go_wp2_with fail
      go_roundw
      case rel => exact ⟨k + 1, v3, u3, by omega, by go_num, H3.out, HX3.out⟩
      case measure => simp [intOf]; omega
    · obtain rfl : k = us.length := by omega
      have hB := HB.out
      rw [List.take_length, hl, List.take_length] at hB
      have hsu : ∀ b, SS us b → b < w.heap.size := HS.out.lt
      have hsv : ∀ b, SS (fs.flatMap fun l => l.map insSV) b → b < w.heap.size := HR.out.lt
      have hall : ∀ b, g ≤ b → ¬ (SS (fs.flatMap fun l => l.map insSV) b ∨ SS us b) := fun b hb h => by
        rcases h with h | h
        · have := hsv b h; omega
        · have := hsu b h; omega
      have HA := Lib.hid (apartMU_any g v u (fs.flatMap fun l => l.map insSV) us f (fun k => (fs[k]?).getD []) w2 hB.blk (hall g (Nat.le_refl _)) hB.paths.slice hB.reps.slice (HR.out.below HW.out) (HS.out.below HW.out) HD.out HDU.out HXX.out
        (fun b hb => hall b (by have := (hB.paths.block b hb).1; omega)) (fun b hb => hall b (by have := (hB.reps.block b hb).1; omega)) (by omega) (by omega) hf (fun j => by have := hgl j; omega))
      clear hB hsu hsv hall
      go_wp2_with fail
      refine HA.out.mono ?_
      rintro e w3 ⟨rfl, h3, _⟩
      have H3 := Lib.hid ((Only.of_below HW.out).trans h3 (fun _ _ h => h))
      clear h3
      go_wp2_with fail
      go_ret
      exact ⟨rfl, H3.out⟩
end Go.Proofs.YtniibcgomnjfgaaGreat
/-! Several rows of builts, each in memory of its own. -/
namespace Go.Agg
open Go.RowKit
theorem RoomsL.below {P : Program} {α : Type} {E : Elem P α} {w w' : World} {vs : List SV} {fs : List (List α)} (h : RoomsL E w vs fs) (hb : Below w.heap.size w w') : RoomsL E w' vs fs := ⟨h.len, fun k v l h1 h2 => (h.row k v l h1 h2).below hb⟩
end Go.Agg
namespace Go.Proofs.YtniibcgomnjfgaaGreat
open Go.RowKit Pl Go.Agg
def insV (fs : List (List BuV)) : List SV := fs.flatMap fun l => l.map insSV
def insL (fs : List (List BuV)) : List (List Md) := fs.flatMap fun l => l.map fun x => x.1.ins
theorem insV_append (a b : List (List BuV)) : insV (a ++ b) = insV a ++ insV b := by simp [insV]
theorem insL_append (a b : List (List BuV)) : insL (a ++ b) = insL a ++ insL b := by simp [insL]
theorem insV_one (l : List BuV) : insV [l] = l.map insSV := by simp [insV]
theorem insL_one (l : List BuV) : insL [l] = l.map fun x => x.1.ins := by simp [insL]
/-- rows of builts, their blocks where R tells -/
structure OwnMany (R : Nat → Prop) (w : World) (us : List SV) (fs : List (List BuV)) : Prop where
  len : us.length = fs.length
  rowU : RoomsL EBu w us fs
  rowM : RoomsL EMd w (insV fs) (insL fs)
  dU : Dist us
  dM : Dist (insV fs)
  cross : ∀ b, SS us b → ¬ SS (insV fs) b
  low : ∀ b, SS us b ∨ SS (insV fs) b → R b
theorem OwnMany.below {R : Nat → Prop} {w w' : World} {us : List SV} {fs : List (List BuV)} (h : OwnMany R w us fs) (hb : Below w.heap.size w w') : OwnMany R w' us fs := ⟨h.len, h.rowU.below hb, h.rowM.below hb, h.dU, h.dM, h.cross, h.low⟩
theorem OwnMany.one {base : Nat} {w : World} {s : SV} {l : List BuV} (h : OwnBus base w s.1 l) : OwnMany (fun b => base ≤ b ∧ b < w.heap.size) w [s] [l] := by
  have hin : ∀ b, SS (l.map insSV) b → ∃ x ∈ l, (ivV x.2).ownBlock = some b := by
    rintro b ⟨k, v, hk, hb⟩
    rw [List.getElem?_map] at hk
    cases hx : l[k]? with
    | none => rw [hx] at hk; cases hk
    | some x =>
      rw [hx] at hk
      obtain rfl : insSV x = v := by simpa using hk
      exact ⟨x, List.mem_of_getElem? hx, hb⟩
  refine ⟨rfl, RoomsL.one (RoomN.of_own h.row), ?_, dist_one s, ?_, ?_, ?_⟩
  · rw [insV_one, insL_one]
    refine ⟨by simp, fun k v m h1 h2 => ?_⟩
    rw [List.getElem?_map] at h1 h2
    cases hx : l[k]? with
    | none => rw [hx] at h1; cases h1
    | some x =>
      rw [hx] at h1 h2
      obtain rfl : insSV x = v := by simpa using h1
      obtain rfl : x.1.ins = m := by simpa using h2
      exact RoomN.of_own (h.ins x (List.mem_of_getElem? hx))
  · rw [insV_one]
    intro i j u v hi hj hij b hu hv
    rw [List.getElem?_map] at hi hj
    cases hx : l[i]? with
    | none => rw [hx] at hi; cases hi
    | some x =>
      cases hy : l[j]? with
      | none => rw [hy] at hj; cases hj
      | some y =>
        rw [hx] at hi
        rw [hy] at hj
        obtain rfl : insSV x = u := by simpa using hi
        obtain rfl : insSV y = v := by simpa using hj
        obtain ⟨hi', rfl⟩ := List.getElem?_eq_some_iff.1 hx
        obtain ⟨hj', rfl⟩ := List.getElem?_eq_some_iff.1 hy
        have hp := List.pairwise_iff_getElem.1 h.dist
        rcases Nat.lt_or_gt_of_ne hij with hl | hl
        · exact hp i j hi' hj' hl b hu hv
        · exact hp j i hj' hi' hl b hv hu
  · intro b h1 h2
    rw [insV_one] at h2
    obtain ⟨x, hx, hb⟩ := hin b h2
    obtain ⟨_, c1, e1⟩ := h.row.block b (ss_one h1)
    obtain ⟨_, c2, e2⟩ := (h.ins x hx).block b hb
    rw [e1] at e2
    injection e2 with e2
    injection e2 with _ e3
    exact absurd e3 (by decide)
  · rintro b (h1 | h2)
    · obtain ⟨h3, c1, e1⟩ := h.row.block b (ss_one h1)
      exact ⟨h3, heap_lt e1⟩
    · rw [insV_one] at h2
      obtain ⟨x, hx, hb⟩ := hin b h2
      obtain ⟨h3, c2, e2⟩ := (h.ins x hx).block b hb
      exact ⟨h3, heap_lt e2⟩
theorem OwnMany.append {R T : Nat → Prop} {w : World} {us vs : List SV} {fs gs : List (List BuV)} (h : OwnMany R w us fs) (k : OwnMany T w vs gs) (hc : ∀ b, R b → ¬ T b) : OwnMany (fun b => R b ∨ T b) w (us ++ vs) (fs ++ gs) := by
  refine ⟨by simp [h.len, k.len], h.rowU.append k.rowU, by rw [insV_append, insL_append]; exact h.rowM.append k.rowM, h.dU.append k.dU fun b h1 h2 => hc b (h.low b (.inl h1)) (k.low b (.inl h2)), ?_, ?_, ?_⟩
  · rw [insV_append]
    exact h.dM.append k.dM fun b h1 h2 => hc b (h.low b (.inr h1)) (k.low b (.inr h2))
  · intro b h1 h2
    rw [insV_append] at h2
    rcases ss_append h1 with h1 | h1 <;> rcases ss_append h2 with h2 | h2
    · exact h.cross b h1 h2
    · exact hc b (h.low b (.inl h1)) (k.low b (.inr h2))
    · exact hc b (h.low b (.inr h2)) (k.low b (.inl h1))
    · exact k.cross b h1 h2
  · rw [insV_append]
    rintro b (h1 | h1) <;> rcases ss_append h1 with h2 | h2
    · exact .inl (h.low b (.inl h2))
    · exact .inr (k.low b (.inl h2))
    · exact .inl (h.low b (.inr h2))
    · exact .inr (k.low b (.inr h2))
theorem insL_short {n : Nat} {fs : List (List BuV)} (h : ∀ l ∈ fs, ∀ x ∈ l, x.1.ins.length ≤ n) (j : Nat) : (((insL fs)[j]?).getD []).length ≤ n := by
  cases hj : (insL fs)[j]? with
  | none => simp
  | some l =>
    have hm := List.mem_of_getElem? hj
    simp only [insL, List.mem_flatMap, List.mem_map] at hm
    obtain ⟨f, hf, x, hx, rfl⟩ := hm
    exact h f hf x hx
/-- ApartBuilts answers true -/
theorem OwnMany.apart {R : Nat → Prop} {w : World} {us : List SV} {fs : List (List BuV)} (h : OwnMany R w us fs) (v0 : Value) (he : SliceOf EUU w v0 us) (hn : (insV fs).length ≤ 1048576) (hm : us.length ≤ 1048576) (hi : ∀ l ∈ fs, ∀ x ∈ l, x.1.ins.length ≤ 1048576) (hl : ∀ l ∈ fs, l.length ≤ 1048576) :
    Calls Tryz.prog 24 #[v0] w fun e w' => e = .returned (.bool true) ∧ Only R w w' := by
  refine (apartBuilts_any v0 us fs _ w he h.len h.rowU.of h.rowM.of h.dM h.dU h.cross hn hm (fun j => by have := insL_short hi j; omega) (fun j => ?_)).mono ?_
  · cases hj : fs[j]? with
    | none => simp
    | some l => exact hl l (List.mem_of_getElem? hj)
  · rintro e w' ⟨rfl, ho⟩
    exact ⟨rfl, ho.mono fun b _ hb => h.low b (hb.elim .inr .inl)⟩
end Go.Proofs.YtniibcgomnjfgaaGreat
