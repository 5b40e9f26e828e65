/- tree.Put. -/
import Derived.Test.YtfiadgdinhmgbaaDoorHAW
import Derived.Test.YtfiadgdinhmgbaaDoorHAU
import Derived.Test.YtfiadgdinhmgbaaDoorHAP
namespace Go.Proofs.YtfiadgdinhmgbaaDoor
open Go.RowKit Pl Go.Agg Go.Tr
theorem exec_minC {P : Program} {o : Oper} {a : Act} {w : World} {t1 t2 : TypeId} {x y : Operand} {u v r : Value} (ho : o.op = .call { callee := .builtin .min, args := #[x, y], argTypes := #[t1, t2] }) (hx : a.eval x = u) (hy : a.eval y = v) (hrun : (Builtin.min_ #[t1, t2] o.type #[u, v]).run P w = .ok r w) : (execOp a.eval o).run P w = .ok (.value r) w := by
 simp [execOp, ho, resolve, invoke, builtin, hx, hy, hrun]
theorem exec_sliceHT {P : Program} {o : Oper} {a : Act} {w : World} {t : TypeId} {x y : Operand} {v hi r : Value} (ho : o.op = .slice t x none (some y) none) (hx : a.eval x = v) (hy : a.eval y = hi) (hrun : (Instr.sliceAt t v none (some hi) none).run P w = .ok r w) : (execOp a.eval o).run P w = .ok (.value r) w := by
 simp [execOp, ho, hx, hy, hrun]
theorem own_capT {α : Type} {E : Elem Tryd.prog α} {base : Nat} {w : World} {v : Value} {l : List α} (h : Agg.Own E base w v l) : ∀ p m c, v = .slice p m c → m ≤ c := fun p m c e => by
 obtain ⟨_, ⟨rfl, _⟩ | ⟨g, cap, cur, rfl, _, _, hle, _⟩⟩ := h
 ·simp only [Value.slice.injEq] at e; omega
 ·simp only [Value.slice.injEq] at e; omega
theorem ptE_2 {t x : T} {s : List UInt8} (h : right t = false ∨ right x = false) : ptE t s x = 2 ∧ ptT t s x = zT := by
 have e : ptE t s x = 2 := by rcases h with h | h <;> simp [ptE, h]
 exact ⟨e, by simp [ptT, e, zTree, zT]⟩
theorem ptE_4 {t x : T} {s : List UInt8} (h1 : right t = true) (h2 : right x = true) (hw : wayN s = none) : ptE t s x = 4 ∧ ptT t s x = zT := by
 have e : ptE t s x = 4 := by simp [ptE, h1, h2, hw]
 exact ⟨e, by simp [ptT, e, zTree, zT]⟩
theorem ptE_6 {t x : T} {s : List UInt8} {ws : N} (h1 : right t = true) (h2 : right x = true) (hw : wayN s = some ws) (hp : put t x (ws.take 1000) = none) : ptE t s x = 6 ∧ ptT t s x = zT := by
 have e : ptE t s x = 6 := by simp [ptE, h1, h2, hw, hp]
 exact ⟨e, by simp [ptT, e, zTree, zT]⟩
theorem ptE_3 {t x y : T} {s : List UInt8} {ws : N} (h1 : right t = true) (h2 : right x = true) (hw : wayN s = some ws) (hp : put t x (ws.take 1000) = some y) (hr : right y = false) : ptE t s x = 3 ∧ ptT t s x = zT := by
 have e : ptE t s x = 3 := by simp [ptE, h1, h2, hw, hp, hr]
 exact ⟨e, by simp [ptT, e, zTree, zT]⟩
theorem ptE_0 {t x y : T} {s : List UInt8} {ws : N} (h1 : right t = true) (h2 : right x = true) (hw : wayN s = some ws) (hp : put t x (ws.take 1000) = some y) (hr : right y = true) : ptE t s x = 0 ∧ ptT t s x = y := by
 have e : ptE t s x = 0 := by simp [ptE, h1, h2, hw, hp, hr]
 exact ⟨e, by simp [ptT, e, hw, hp]⟩
theorem wayN_len {s : List UInt8} {ns : N} (h : wayN s = some ns) : ns.length ≤ s.length + 1 := by
 have h1 := splitB_len s
 unfold wayN at h
 split at h
 ·obtain rfl := Option.some.inj h; simp
 ·split at h
  ·obtain rfl := Option.some.inj h; omega
  ·cases h
set_option maxRecDepth 100000 in
set_option maxHeartbeats 16000000 in
theorem tput_any (t u : T) (s : List UInt8) (hs : s.length ≤ 1048576) (vn vx : Value) (w : World) (hv : NodeAt w vn t) (hvx : NodeAt w vx u) :
  Calls Tryd.prog 12 #[vn, .string ⟨s.toArray⟩, vx] w fun e w' => ∃ x', e = .returned (.tuple #[.agg (ndC x'), .int .i64 (ptE t s u : Int)]) ∧ OwnN w.heap.size w' x' (ptT t s u) ∧ Below w.heap.size w w' := by
 obtain ⟨x, rfl, hx⟩ := hv
 obtain ⟨xu, rfl, hxu⟩ := hvx
 have HX := Lib.hid hx
 have HU := Lib.hid hxu
 clear hx hxu
 go_enter Tryd.func12, Tryd.ntmps12
 go_wp2_with (first | (refine wpList_box rfl 26 _ rfl (ndC x) rfl ?_; intro g3 w1 hb hx hg; have HA1 := Lib.hid hb; have HX1 := Lib.hid hx; clear hb hx hg) | (refine wpList_box rfl 26 _ rfl (ndC xu) rfl ?_; intro g5 w2 hb hx hg; have HB2 := Lib.hid hb; have HA2 := Lib.hid (HA1.out.below hx); have HX2 := Lib.hid (belowThen HX1.out (Nat.le_refl _) hx); clear hb hx hg) | (refine Agg.wpList_zero rfl 26 rfl (ndC ndZ) nd_zero ?_; intro g6 w3 hb hx hg; have HR3 := Lib.hid hb; have HA3 := Lib.hid (HA2.out.below hx); have HB3 := Lib.hid (HB2.out.below hx); have HG6 := Lib.hid (show w.heap.size ≤ g6 from Nat.le_trans HX2.out.size hg); have HX3 := Lib.hid (belowThen HX2.out (Nat.le_refl _) hx); clear hb hx hg) | (with_reducible refine wpList_loadL (NdL.of_blk HA3.out).all rfl _ rfl rfl ?_))
 refine (tright_any (.agg (ndC x)) t w3 ⟨x, rfl, HX.out.below HX3.out⟩).mono ?_
 rintro e w4 ⟨rfl, hx⟩
 have HA4 := Lib.hid (HA3.out.below hx)
 have HB4 := Lib.hid (HB3.out.below hx)
 have HR4 := Lib.hid (HR3.out.below hx)
 have HX4 := Lib.hid (belowThen HX3.out (Nat.le_refl _) hx)
 clear hx
 cases hr : right t with
 | false =>
  have HE := Lib.hid (ptE_2 (t := t) (x := u) (s := s) (.inl hr))
  go_wp2_with (first | (with_reducible refine wpList_build0 26 rfl rfl (.agg (ndC ndZ)) nd_build0 ?_) | (refine Agg.wpList_put rfl rfl 26 _ _ rfl g6 (ndC ndZ) (ndC ndZ) rfl rfl HR4.out (nd_info _) rfl (ndC_one _) ?_; intro wf hb hx hs9 hk; have ho9 := Only.of_eq (S := (· = g6)) hx hs9 hk rfl; have HF := Lib.hid hb; have HXF := Lib.hid (HX4.out.trans (ho9.below (B := w.heap.size) HX4.out.size (fun i hi => by subst hi; exact HG6.out))); clear hb hx hs9 hk ho9))
  exact post_row_tmp rfl rfl rfl HF.out nd_under rfl (nd_info _) rfl ⟨ndZ, by rw [HE.out.1]; rfl, by rw [HE.out.2]; exact ownN_zero _ _, HXF.out⟩
 | true =>
  have HRT := Lib.hid hr
  clear hr
  go_wp2_with (first | (with_reducible refine wpList_loadL (NdL.of_blk HB4.out).all rfl _ rfl rfl ?_))
  refine (tright_any (.agg (ndC xu)) u w4 ⟨xu, rfl, HU.out.below HX4.out⟩).mono ?_
  rintro e w5 ⟨rfl, hx⟩
  have HA5 := Lib.hid (HA4.out.below hx)
  have HB5 := Lib.hid (HB4.out.below hx)
  have HR5 := Lib.hid (HR4.out.below hx)
  have HX5 := Lib.hid (belowThen HX4.out (Nat.le_refl _) hx)
  clear hx
  cases hr : right u with
  | false =>
   have HE := Lib.hid (ptE_2 (t := t) (x := u) (s := s) (.inr hr))
   go_wp2_with (first | (with_reducible refine wpList_build0 26 rfl rfl (.agg (ndC ndZ)) nd_build0 ?_) | (refine Agg.wpList_put rfl rfl 26 _ _ rfl g6 (ndC ndZ) (ndC ndZ) rfl rfl HR5.out (nd_info _) rfl (ndC_one _) ?_; intro wf hb hx hs9 hk; have ho9 := Only.of_eq (S := (· = g6)) hx hs9 hk rfl; have HF := Lib.hid hb; have HXF := Lib.hid (HX5.out.trans (ho9.below (B := w.heap.size) HX5.out.size (fun i hi => by subst hi; exact HG6.out))); clear hb hx hs9 hk ho9))
   exact post_row_tmp rfl rfl rfl HF.out nd_under rfl (nd_info _) rfl ⟨ndZ, by rw [HE.out.1]; rfl, by rw [HE.out.2]; exact ownN_zero _ _, HXF.out⟩
  | true =>
   have HRU := Lib.hid hr
   clear hr
   go_wp2_with fail
   refine (way_any s hs w5).mono ?_
   rintro e w6 ⟨vw, rfl, how, hx⟩
   have HA6 := Lib.hid (HA5.out.below hx)
   have HB6 := Lib.hid (HB5.out.below hx)
   have HR6 := Lib.hid (HR5.out.below hx)
   have HX6 := Lib.hid (belowThen HX5.out (Nat.le_refl _) hx)
   have HW6 := Lib.hid how
   have HWR := Lib.hid (own_range how)
   have HZ5 := Lib.hid HX5.out.size
   have HZ56 := Lib.hid hx.size
   clear hx how
   cases hwn : wayN s with
   | none =>
    have hwe : wyE s = 4 := by simp [wyE, hwn]
    rw [hwe]
    have HE := Lib.hid (ptE_4 HRT.out HRU.out hwn)
    go_wp2_with (first | (with_reducible refine wpList_build0 26 rfl rfl (.agg (ndC ndZ)) nd_build0 ?_) | (refine Agg.wpList_put rfl rfl 26 _ _ rfl g6 (ndC ndZ) (ndC ndZ) rfl rfl HR6.out (nd_info _) rfl (ndC_one _) ?_; intro wf hb hx hs9 hk; have ho9 := Only.of_eq (S := (· = g6)) hx hs9 hk rfl; have HF := Lib.hid hb; have HXF := Lib.hid (HX6.out.trans (ho9.below (B := w.heap.size) HX6.out.size (fun i hi => by subst hi; exact HG6.out))); clear hb hx hs9 hk ho9))
    exact post_row_tmp rfl rfl rfl HF.out nd_under rfl (nd_info _) rfl ⟨ndZ, by rw [HE.out.1]; rfl, by rw [HE.out.2]; exact ownN_zero _ _, HXF.out⟩
   | some ns =>
    have hwe : wyE s = 0 := by simp [wyE, hwn]
    have hwl : wyL s = ns := by simp [wyL, hwn]
    have hnl := wayN_len hwn
    have HWN := Lib.hid hwn
    rw [hwe]
    rw [hwl] at HW6
    clear hwe hwl hwn
    go_wp2_with (first | (with_reducible refine wpList_loadL (NdL.of_blk HA6.out).all rfl _ rfl rfl ?_))
    refine (own_any (count t) t (Nat.le_refl _) (right_ok HRT.out) (.agg (ndC x)) w6 ⟨x, rfl, HX.out.below HX6.out⟩).mono ?_
    rintro e w7 ⟨xo, rfl, hon, hx⟩
    have HA7 := Lib.hid (HA6.out.below hx)
    have HB7 := Lib.hid (HB6.out.below hx)
    have HR7 := Lib.hid (HR6.out.below hx)
    have HX7 := Lib.hid (belowThen HX6.out (Nat.le_refl _) hx)
    obtain ⟨bs, hot, hbn⟩ := hon
    have HO7 := Lib.hid hot
    have HBN := Lib.hid hbn
    have HBR := Lib.hid (OwnT.range _ _ _ hot)
    have HW7 := Lib.hid (HW6.out.below hx)
    have HZ67 := Lib.hid hx.size
    clear hx hot hbn
    go_wp2_with (first | (refine wpList_new rfl rfl rfl 26 10 30 rfl rfl rfl (by decide) (ndC ndZ) (ndC xo) nd_zero rfl (nd_info _) (ndC_one _) rfl (by first | (simp; done) | simp [Act.put]) ?_; intro g10 w8 hb hx hg; have HN8 := Lib.hid hb; have HO8 := Lib.hid (OwnT.below hx HO7.out); have HW8 := Lib.hid (HW7.out.below hx); have HG10 := Lib.hid (show w7.heap.size ≤ g10 from hg); have HZ78 := Lib.hid hx.size; have HA8 := Lib.hid (HA7.out.below hx); have HB8 := Lib.hid (HB7.out.below hx); have HR8 := Lib.hid (HR7.out.below hx); have HX8 := Lib.hid (belowThen HX7.out (Nat.le_refl _) hx); clear hb hx hg))
    have HBX := Lib.hid (own_capT HW8.out)
    obtain ⟨vp, vc, hvf⟩ := HW8.out.slice.form
    subst hvf
    have hvc : ns.length ≤ vc := HBX.out _ _ _ rfl
    have hlw := fun W => strs_len HW8.out.slice W
    obtain ⟨m, hm⟩ : ∃ m, m = min ns.length 1000 := ⟨_, rfl⟩
    have hmin : ∀ W, (Builtin.min_ #[3, 3] 3 #[.int .i64 (ns.length : Int), .int .i64 1000]).run Tryd.prog W = .ok (.int .i64 (m : Int)) W := fun W => by
     have e : (if (1000 : Int) < (ns.length : Int) then (1000 : Int) else (ns.length : Int)) = (m : Int) := by split <;> omega
     simp [Builtin.min_, Builtin.min2, e]
    have hsl : ∀ W, (Instr.sliceAt 37 (.slice vp ns.length vc) none (some (.int .i64 (m : Int))) none).run Tryd.prog W = .ok (.slice vp m vc) W := fun W => ES.runHigh (P := Tryd.prog) vp ns.length vc m (by omega) W
    have HLW := Lib.hid hlw
    have HMIN := Lib.hid hmin
    have HSL := Lib.hid hsl
    have HM := Lib.hid hm
    have HTK := Lib.hid (show SliceOf ES w8 (.slice vp m vc) (ns.take m) from sliceOf_taken HW8.out.slice m (by omega))
    have HEO := Lib.hid (enters_of Tryd.func35 (by kernel_rfl) rfl : ∀ args w, (callFunc 35 args).run Tryd.prog w = .ok (.enter 35 args) w)
    have HEP := Lib.hid (enters_of Tryd.func40 (by kernel_rfl) rfl : ∀ args w, (callFunc 40 args).run Tryd.prog w = .ok (.enter 40 args) w)
    have HDJ := Lib.hid (show g5 < w5.heap.size ∧ g6 < w5.heap.size ∧ w5.heap.size ≤ w6.heap.size ∧ w6.heap.size ≤ w7.heap.size ∧ g10 < w8.heap.size ∧ w7.heap.size ≤ w8.heap.size from ⟨HB5.out.lt, HR5.out.lt, HZ56.out, HZ67.out, HN8.out.lt, HZ78.out⟩)
    clear hmin hsl hm
    refine Agg.wp_cutR (fun a0 a' w' => ∃ (e9 : Nat) (bx : List Nat) (wk : World), PutQ w.heap.size g10 26 #[] #[] bs bx (put t u (ns.take m)) wk (.returned (.int .i64 (e9 : Int))) w' ∧ (∀ j ∈ bx, w8.heap.size ≤ j) ∧ w8.heap.size ≤ wk.heap.size ∧ Below w.heap.size w w' ∧ Blk w' g6 26 (ndC ndZ) ∧ ExPut [31, 32, 33, 34, 35, 36, 37, 38] (a0.put (some 9) (.int .i64 (e9 : Int))) a') ?_ ?_
    ·try simp only [Act.put, List.setIfInBounds_toArray, List.set_cons_succ, List.set_cons_zero]
     obtain ⟨wa, hwa⟩ : ∃ W, W = w8.drew := ⟨_, rfl⟩
     have hda : Below w8.heap.size w8 wa := by rw [hwa]; exact (Below.refl _ _).drew
     have HB_ := Lib.hid (HB8.out.below hda)
     have HR_ := Lib.hid (HR8.out.below hda)
     have HN_ := Lib.hid (HN8.out.below hda)
     have HO_ := Lib.hid (OwnT.below hda HO8.out)
     have HT_ := Lib.hid (SliceOf.below HTK.out hda)
     have HX_ := Lib.hid (belowThen HX8.out (Nat.le_refl _) hda)
     have HZ_ := Lib.hid hda.size
     refine wp_region_held_drew (S := fun W => Blk W g5 26 (ndC xu)) (by kernel_rfl) (by rw [← hwa]; exact HB_.out) (fun hHeld => ?_)
     rw [← hwa] at hHeld ⊢
     clear hwa hda
     refine held_take 0 (.slice vp ns.length vc) rfl (by kernel_rfl) (fun _ _ _ h => h) rfl (fun W _ => by first | kernel_rfl | rfl | simp [execOp]) (by assumption) ?_
     try simp only [Act.put, List.setIfInBounds_toArray, List.set_cons_succ, List.set_cons_zero]
     refine held_take 1 (.slice vp ns.length vc) rfl (by kernel_rfl) (fun _ _ _ h => h) rfl (fun W _ => by first | kernel_rfl | rfl | simp [execOp]) (by assumption) ?_
     try simp only [Act.put, List.setIfInBounds_toArray, List.set_cons_succ, List.set_cons_zero]
     refine held_take 2 (.int .i64 (ns.length : Int)) rfl (by kernel_rfl) (fun _ _ _ h => h) rfl (fun W _ => exec_lenC rfl rfl (HLW.out W)) (by assumption) ?_
     try simp only [Act.put, List.setIfInBounds_toArray, List.set_cons_succ, List.set_cons_zero]
     refine held_take 3 (.int .i64 (m : Int)) rfl (by kernel_rfl) (fun _ _ _ h => h) rfl (fun W _ => exec_minC rfl rfl rfl (HMIN.out W)) (by assumption) ?_
     try simp only [Act.put, List.setIfInBounds_toArray, List.set_cons_succ, List.set_cons_zero]
     refine held_take 4 (.slice vp m vc) rfl (by kernel_rfl) (fun _ _ _ h => h) rfl (fun W _ => exec_sliceHT rfl rfl rfl (HSL.out W)) (by assumption) ?_
     try simp only [Act.put, List.setIfInBounds_toArray, List.set_cons_succ, List.set_cons_zero]
     refine held_take 5 (.agg (ndC xu)) rfl (by kernel_rfl) (fun _ _ _ h => h) rfl (fun W hS => exec_loadB rfl rfl (NdL.of_blk hS).all.now) (by assumption) ?_
     try simp only [Act.put, List.setIfInBounds_toArray, List.set_cons_succ, List.set_cons_zero]
     refine held_one 6 rfl (by kernel_rfl) ?_
     refine step_call rfl 35 _ _ rfl #[.agg (ndC xu)] (by simp only [List.map_toArray, List.map_cons, List.map_nil]; rfl) (fun W => HEO.out _ W) ?_
     refine (own_any (count u) u (Nat.le_refl _) (right_ok HRU.out) (.agg (ndC xu)) _ ⟨xu, rfl, HU.out.below HX_.out⟩).mono ?_
     rintro e wa_6 ⟨xc, rfl, hon, hx⟩
     obtain ⟨bx, hxt, hxn⟩ := hon
     have HBXR := Lib.hid (OwnT.range _ _ _ hxt)
     have HBXN := Lib.hid hxn
     have HC := Lib.hid hxt
     have HB_6 := Lib.hid (HB_.out.below hx)
     have HR_6 := Lib.hid (HR_.out.below hx)
     have HN_6 := Lib.hid (HN_.out.below hx)
     have HO_6 := Lib.hid (OwnT.below hx HO_.out)
     have HT_6 := Lib.hid (SliceOf.below HT_.out hx)
     have HX_6 := Lib.hid (belowThen HX_.out (Nat.le_refl _) hx)
     have HZ_6 := Lib.hid (Nat.le_trans HZ_.out hx.size)
     have hS_6 : Blk wa_6 g5 26 (ndC xu) := HB_6.out
     clear hx hxt hxn
     refine ⟨_, rfl, ?_⟩
     refine ⟨hS_6, ?_⟩
     try simp only [Act.put, List.setIfInBounds_toArray, List.set_cons_succ, List.set_cons_zero]
     refine held_one 7 rfl (by kernel_rfl) ?_
     refine step_call rfl 40 _ _ rfl #[.pointer (some ⟨g10, 0, none⟩), .slice vp m vc, .agg (ndC xc)] (by simp only [List.map_toArray, List.map_cons, List.map_nil]; rfl) (fun W => HEP.out _ W) ?_
     have hdj := HDJ.out
     have hzz := HZ_6.out
     have HCALL := Lib.hid (put_all (ns.take m) t u (right_ok HRT.out) xo xc bs bx w.heap.size g10 26 #[] #[] (.slice vp m vc) wa_6 HT_6.out (fun j hj => by
      have hj' : (Value.slice vp ns.length vc).ownBlock = some j := by cases vp <;> exact hj
      have h1 := HWR.out j (mem_ownB.2 hj')
      exact ⟨fun e => by have := HG10.out; omega, fun hm => by have := (HBR.out j hm).1; omega, by omega⟩) (fun p n c e => by simp only [Value.slice.injEq] at e; have := HM.out; omega) (by simpa using HN_6.out) (OwnT.lowerB (Nat.le_trans HZ5.out hdj.2.2.1) _ _ _ HO_6.out) (OwnT.lowerB HX_.out.size _ _ _ HC.out)
      (List.nodup_cons.2 ⟨fun hm => by
       rcases List.mem_append.1 hm with h | h
       ·have := (HBR.out g10 h).2; have := HG10.out; omega
       ·have := (HBXR.out g10 h).1; have := HZ_.out; omega, List.nodup_append.2 ⟨HBN.out, HBXN.out, fun a ha b hb e => by have := (HBR.out a ha).2; have := (HBXR.out b hb).1; have := HZ_.out; omega⟩⟩) HX_6.out.size)
     refine HCALL.out.mono ?_
     intro e Za hq
     obtain ⟨e9, rfl, hq⟩ := hq
     have ho := hq.1
     have HQ := Lib.hid (show PutQ w.heap.size g10 26 #[] #[] bs bx (put t u (ns.take m)) wa_6 (.returned (.int .i64 (e9 : Int))) Za from ⟨e9, rfl, hq⟩)
     have Zb := Lib.hid (Agg.Blk.keepO HB_6.out ho (fun h => by rcases h with h | h; (have := HG10.out; omega); (have := (HBR.out g5 h).1; omega)))
     have Ze := Lib.hid (Agg.Blk.keepO HR_6.out ho (fun h => by rcases h with h | h; (have := HG10.out; omega); (have := (HBR.out g6 h).1; omega)))
     have Zc := Lib.hid (HX_6.out.trans (ho.below (B := w.heap.size) HX_6.out.size (fun i hi => by rcases hi with h | h; (have := HG10.out; have := HX7.out.size; omega); (have := (HBR.out i h).1; have := HZ5.out; omega))))
     have Zd : Blk Za g5 26 (ndC xu) := Zb.out
     clear ho hq hdj hzz
     refine ⟨_, rfl, ?_⟩
     refine ⟨Zd, ?_⟩
     try simp only [Act.put, List.setIfInBounds_toArray, List.set_cons_succ, List.set_cons_zero]
     refine held_take 8 (.int .i64 (e9 : Int)) rfl (by kernel_rfl) (fun _ _ _ h => h) rfl (fun W _ => by first | kernel_rfl | rfl | simp [execOp]) (by assumption) ?_
     try simp only [Act.put, List.setIfInBounds_toArray, List.set_cons_succ, List.set_cons_zero]
     refine held_end (by kernel_rfl) ?_
     simp only [ExPut, Act.put, List.setIfInBounds_toArray, List.set_cons_succ, List.set_cons_zero]
     exact ⟨e9, bx, wa_6, HQ.out, fun j hj => Nat.le_trans HZ_.out (HBXR.out j hj).1, HZ_6.out, Zc.out, Ze.out, _, _, _, _, _, _, _, _, rfl⟩
    ·rintro a' wb ⟨e9, bx, wk, hq, hbx, hwk, hx, hr, hex⟩
     simp only [ExPut, Act.put, List.setIfInBounds_toArray, List.set_cons_succ, List.set_cons_zero] at hex
     obtain ⟨y31, y32, y33, y34, y35, y36, y37, y38, rfl⟩ := hex
     obtain ⟨e', he9, ho, h6, h0⟩ := hq
     obtain rfl : e9 = e' := by
      simp only [Ending.returned.injEq, Value.int.injEq, true_and] at he9
      omega
     have HRb := Lib.hid hr
     have HXb := Lib.hid hx
     have HWN2 := Lib.hid (show ns.take m = ns.take 1000 by rw [HM.out, Nat.min_comm, ← List.take_eq_take_min])
     clear ho hx hr he9
     cases hp : put t u (ns.take m) with
     | none =>
      obtain rfl := h6 hp
      rw [HWN2.out] at hp
      have HE := Lib.hid (ptE_6 HRT.out HRU.out HWN.out hp)
      clear h6 h0 hp
      go_wp2_with (first | (with_reducible refine wpList_build0 26 rfl rfl (.agg (ndC ndZ)) nd_build0 ?_) | (refine Agg.wpList_put rfl rfl 26 _ _ rfl g6 (ndC ndZ) (ndC ndZ) rfl rfl HRb.out (nd_info _) rfl (ndC_one _) ?_; intro wf hb hx hs9 hk; have ho9 := Only.of_eq (S := (· = g6)) hx hs9 hk rfl; have HF := Lib.hid hb; have HXF := Lib.hid (HXb.out.trans (ho9.below (B := w.heap.size) HXb.out.size (fun i hi => by subst hi; exact HG6.out))); clear hb hx hs9 hk ho9))
      exact post_row_tmp rfl rfl rfl HF.out nd_under rfl (nd_info _) rfl ⟨ndZ, by rw [HE.out.1]; rfl, by rw [HE.out.2]; exact ownN_zero _ _, HXF.out⟩
     | some y =>
      obtain ⟨rfl, xn, bn, hbn, hot, hnd, hmem⟩ := h0 y hp
      rw [HWN2.out] at hp
      have HP := Lib.hid hp
      have HNb := Lib.hid (show Blk wb g10 26 (ndC xn) by simpa using hbn)
      have HOb := Lib.hid hot
      have HBNN := Lib.hid (List.nodup_cons.1 hnd).2
      have HG6N := Lib.hid (show g6 ∉ bn from fun hm => by
       have hdj := HDJ.out
       rcases hmem g6 hm with h | h | h
       ·have := (HBR.out g6 h).1; omega
       ·have := hbx g6 h; omega
       ·omega)
      clear hp h6 h0 hbn hot hnd hmem
      go_wp2_with (first | (with_reducible refine wpList_loadL (NdL.of_blk HNb.out).all rfl _ rfl rfl ?_))
      refine (tright_any (.agg (ndC xn)) y wb ⟨xn, rfl, OwnT.reads _ _ _ HOb.out⟩).mono ?_
      rintro e wc ⟨rfl, hx⟩
      have HRc := Lib.hid (HRb.out.below hx)
      have HXc := Lib.hid (belowThen HXb.out (Nat.le_refl _) hx)
      have HNc := Lib.hid (HNb.out.below hx)
      have HOc := Lib.hid (OwnT.below hx HOb.out)
      clear hx
      cases hr : right y with
      | false =>
       have HE := Lib.hid (ptE_3 HRT.out HRU.out HWN.out HP.out hr)
       clear hr
       go_wp2_with (first | (with_reducible refine wpList_build0 26 rfl rfl (.agg (ndC ndZ)) nd_build0 ?_) | (refine Agg.wpList_put rfl rfl 26 _ _ rfl g6 (ndC ndZ) (ndC ndZ) rfl rfl HRc.out (nd_info _) rfl (ndC_one _) ?_; intro wf hb hx hs9 hk; have ho9 := Only.of_eq (S := (· = g6)) hx hs9 hk rfl; have HF := Lib.hid hb; have HXF := Lib.hid (HXc.out.trans (ho9.below (B := w.heap.size) HXc.out.size (fun i hi => by subst hi; exact HG6.out))); clear hb hx hs9 hk ho9))
       exact post_row_tmp rfl rfl rfl HF.out nd_under rfl (nd_info _) rfl ⟨ndZ, by rw [HE.out.1]; rfl, by rw [HE.out.2]; exact ownN_zero _ _, HXF.out⟩
      | true =>
       have HE := Lib.hid (ptE_0 HRT.out HRU.out HWN.out HP.out hr)
       clear hr
       go_wp2_with (first | (with_reducible refine wpList_loadL (NdL.of_blk HNc.out).all rfl _ rfl rfl ?_) | (refine Agg.wpList_put rfl rfl 26 _ _ rfl g6 (ndC xn) (ndC ndZ) rfl rfl HRc.out (nd_info _) rfl (ndC_one _) ?_; intro wf hb hx hs9 hk; have ho9 := Only.of_eq (S := (· = g6)) hx hs9 hk rfl; have HF := Lib.hid hb; have HOF := Lib.hid (show OwnN w.heap.size wf xn y from ⟨bn, OwnT.only ho9 _ _ _ HOc.out (fun j hj e => HG6N.out (e ▸ hj)), HBNN.out⟩); have HXF := Lib.hid (HXc.out.trans (ho9.below (B := w.heap.size) HXc.out.size (fun i hi => by subst hi; exact HG6.out))); clear hb hx hs9 hk ho9))
       exact post_row_tmp rfl rfl rfl HF.out nd_under rfl (nd_info _) rfl ⟨xn, by rw [HE.out.1]; rfl, by rw [HE.out.2]; exact HOF.out, HXF.out⟩
end Go.Proofs.YtfiadgdinhmgbaaDoor
