/- tree.put: a node put at names, into a tree of one's own. -/
import Derived.Test.YtfiadgdinhmgbaaDoorHAV
import Derived.Test.YtfiadgdinhmgbaaDoorHAF
import Derived.Test.YtfiadgdinhmgbaaDoorHAP
namespace Go.Proofs.YtfiadgdinhmgbaaDoor
open Go.RowKit Pl Go.Agg Go.Tr
theorem nd_build4 (W : World) : (Instr.build 26 #[(0, .int .i64 4)]).run Tryd.prog W = .ok (.agg (ndC (4, svN, svN))) W := by kernel_rfl
def PutC (l : N) : Prop := ∀ (t tx : T) (_ : ok t = true) (n xv : NdV) (bs bx : List Nat) (base g : Nat) (ty : TypeId) (xs zs : Array Value) (vl : Value) (w : World)
 (_ : SliceOf ES w vl l) (_ : ∀ b, vl.ownBlock = some b → b ≠ g ∧ b ∉ bs ∧ b < w.heap.size) (_ : ∀ p m c, vl = .slice p m c → m ≤ c) (_ : Blk w g ty (xs ++ (ndC n ++ zs))) (_ : OwnT base w n t bs) (_ : OwnT base w xv tx bx) (_ : (g :: (bs ++ bx)).Nodup) (_ : base ≤ w.heap.size),
 Calls Tryd.prog 40 #[.pointer (some ⟨g, xs.size, none⟩), vl, .agg (ndC xv)] w (PutQ base g ty xs zs bs bx (put t tx l) w)
set_option maxRecDepth 100000 in
set_option maxHeartbeats 16000000 in
theorem put_nil : PutC [] := by
 intro t tx hok n xv bs bx base g ty xs zs vl w hl hvl hcap hb ht hx hnd hbase
 have hlv := fun W => strs_len hl W
 have HB := Lib.hid hb
 have HX := Lib.hid hx
 have HND := Lib.hid hnd
 clear hl hvl hcap hb ht hx hnd
 go_enter Tryd.func40, Tryd.ntmps40
 go_wp2_with (first | (refine wpList_box rfl 26 _ rfl (ndC xv) rfl ?_; intro g5 w1 hb hx hg; have H51 := Lib.hid hb; have HB1 := Lib.hid (HB.out.below hx); have HX1 := Lib.hid (OwnT.below hx HX.out); have HO1 := Lib.hid hx; clear hb hx hg) | (with_reducible refine wpList_loadL (NdL.of_blk H51.out).all rfl _ rfl rfl ?_) | (refine Agg.wpList_putRow rfl rfl 26 _ _ rfl g xs.size xs (ndC n) zs (ndC xv) rfl rfl HB1.out rfl rfl (nd_info _) (ndC_one _) ?_; intro w2 hb ho; have HB2 := Lib.hid hb; have HOO := Lib.hid ho; clear hb ho))
 go_ret
 have hnb : ∀ j ∈ bx, j ≠ g := fun j hj e => by
  have h := HND.out
  rw [List.nodup_cons] at h
  exact h.1 (e ▸ List.mem_append.2 (.inr hj))
 unfold PutQ
 refine ⟨0, rfl, (Only.of_below HO1.out).then2 (HOO.out.mono fun i _ e => .inl e), (fun h => by cases h), fun t' h => ⟨rfl, xv, bx, HB2.out, ?_, ?_, fun j hj => .inr (.inl hj)⟩⟩
 ·obtain rfl : tx = t' := Option.some.inj h
  exact OwnT.only HOO.out _ _ _ HX1.out (fun j hj e => hnb j hj e)
 ·have h := HND.out
  rw [List.nodup_cons, List.nodup_append] at h
  exact List.nodup_cons.2 ⟨fun hm => hnb g hm rfl, h.2.2.1⟩
set_option maxRecDepth 100000 in
set_option maxHeartbeats 64000000 in
theorem put_cons (a : List UInt8) (l : N) (ih : PutC l) : PutC (a :: l) := by
 intro t tx hok n xv bs bx base g ty xs zs vl w hl hvl hcap hb ht hx hnd hbase
 have hlv := fun W => strs_len hl W
 have hlz : decide (((a :: l).length : Int) = 0) = false := decide_eq_false (by simp only [List.length_cons]; omega)
 have hlz2 : (((a :: l).length : Int) == 0) = false := by rw [beq_eq_false_iff_ne]; simp only [List.length_cons]; omega
 obtain ⟨k, b, kl⟩ := t
 obtain ⟨nk, nb, nks⟩ := n
 have hrg := OwnT.range _ _ _ ht
 obtain ⟨hk, hby, ks, cs, hks, hkl, rfl⟩ := ht
 obtain rfl : nk = k := hk
 have HLT := Lib.hid (show ∀ j ∈ g :: ((ownB nb.1 ++ (ownB nks.1 ++ cs)) ++ bx), j < w.heap.size from fun j hj => by
  rcases List.mem_cons.1 hj with rfl | hj
  ·exact hb.lt
  ·rcases List.mem_append.1 hj with hj | hj
   ·exact (hrg j hj).2
   ·exact (OwnT.range _ _ _ hx j hj).2)
 have HB := Lib.hid hb
 have HX := Lib.hid hx
 have HND := Lib.hid (show (g :: ((ownB nb.1 ++ (ownB nks.1 ++ cs)) ++ bx)).Nodup from hnd)
 have HBY := Lib.hid (show Agg.Own EB base w nb.1 b from hby)
 have HKS := Lib.hid (show Agg.Own EK base w nks.1 ks from hks)
 have HKL := Lib.hid hkl
 have HIH := Lib.hid ih
 have HL := Lib.hid hl
 have HVL := Lib.hid (show ∀ b, vl.ownBlock = some b → b ≠ g ∧ b ∉ ownB nb.1 ++ (ownB nks.1 ++ cs) ∧ b < w.heap.size from hvl)
 have HOK := Lib.hid hok
 obtain ⟨vr, hvrun, _, hvb, hvc, hvs⟩ := names_rest hl hcap
 have HVB := Lib.hid hvb
 have HVC := Lib.hid hvc
 have HVS := Lib.hid hvs
 obtain ⟨pa, hadr0, _⟩ := strs_at hl 0 a rfl
 have hadr1 : ∀ W, (Instr.indexAt 37 vl (.int .i64 0)).run Tryd.prog W = .ok (.pointer (some pa)) W := hadr0
 clear hl hvl hcap hb hx hnd hby hks hkl ih hok hrg hvb hvc hvs hadr0
 have HADR := Lib.hid hadr1
 obtain ⟨len, hlen⟩ : ∃ len, (a :: l).length = len := ⟨_, rfl⟩
 rw [hlen] at hlz hlz2 hlv
 clear hlen
 by_cases h4 : nk = 4
 case neg =>
  have hd1 : decide (nk = 4) = false := by simpa using h4
  have hd2 : (nk == 4) = false := by simpa using h4
  have hd3 : decide (¬ nk = 4) = true := by simpa using h4
  go_enter Tryd.func40, Tryd.ntmps40
  go_wp2_with (first | (refine wpList_box rfl 26 _ rfl (ndC xv) rfl ?_; intro g5 w1 hb hx hg; have H51 := Lib.hid hb; have HB1 := Lib.hid (HB.out.below hx); have HO1 := Lib.hid hx; clear hb hx hg) | (with_reducible refine wpList_loadL (ndl_mid HB1.out).kind rfl _ rfl rfl ?_))
  go_ret
  have hp : put (.mk nk b kl) tx (a :: l) = none := by simp [put, T.kind, h4]
  rw [hp]
  unfold PutQ
  exact ⟨6, rfl, Only.of_below HO1.out, fun _ => rfl, fun t' h => by cases h⟩
 subst h4
 have hll : kl.length ≤ 200 := by
  have ha : alone (.mk 4 b kl) = true := by have := HOK.out; simp only [ok, Bool.and_eq_true] at this; exact this.1
  rcases alone_cases ha with ⟨_, _, h, _⟩ | ⟨h, _⟩
  ·exact h
  ·exact absurd rfl h
 have hkl' := (OwnL.reads _ _ _ HKL.out).len
 have HRI := Lib.hid (show RiseK kl from kids_pair HOK.out)
 go_enter Tryd.func40, Tryd.ntmps40
 go_wp2_with (first | (refine wpList_box rfl 26 _ rfl (ndC xv) rfl ?_; intro g5 w1 hb hx hg; have H51 := Lib.hid hb; have HB1 := Lib.hid (HB.out.below hx); have HX01 := Lib.hid hx; have HG5 := Lib.hid (show g5 ≠ g from fun e => by have := HB.out.lt; have : w.heap.size ≤ g5 := hg; omega); clear hb hx hg) | (with_reducible refine wpList_loadL (ndl_mid HB1.out).kind rfl _ rfl rfl ?_))
 have HNA := Lib.hid (names_load (SliceOf.below HL.out HX01.out) HADR.out)
 try simp only [List.append_eq, List.cons_append, List.nil_append]
 try simp only [Act.put, List.setIfInBounds_toArray, List.set_cons_succ, List.set_cons_zero]
 refine Agg.wp_region_mid 6 7 (fun w' => ∃ x : Later w1, w' = x.w) (by kernel_rfl) (by kernel_rfl) ⟨⟨_, (Below.refl _ _).drew⟩, rfl⟩ ?_
 simp only [List.take_succ_cons, List.take_zero, List.drop_succ_cons, List.drop_zero]
 repeat (first | go_big_quiet_skip | ((first | (with_reducible refine wpQuiet_loadL (ndl_mid HB1.out).all rfl _ rfl rfl ?_) | (with_reducible refine wpQuiet_loadL HNA.out rfl _ rfl rfl ?_)); simp only [Act.put, List.setIfInBounds_toArray, List.set_cons_succ, List.set_cons_zero]) | go_big_quiet_step (fail))
 refine wpQuiet_nil ?_
 intro _ hw'
 obtain ⟨x1, rfl⟩ := hw'
 obtain ⟨w2, hw2⟩ : ∃ W, W = x1.w := ⟨_, rfl⟩
 have hx12 : Below w1.heap.size w1 w2 := by rw [hw2]; exact x1.h
 rw [← hw2]
 clear hw2 x1
 have HX02 := Lib.hid (belowThen HX01.out (Nat.le_refl _) hx12)
 have H52 := Lib.hid (H51.out.below hx12)
 clear hx12
 go_wp2_with fail
 refine (find_any (4, nb, nks) kl ks (by omega) HRI.out a w2 (HKS.out.slice.below HX02.out) (OwnL.reads _ _ _ (HKL.out.below HX02.out)).nms).mono ?_
 rintro e w3 ⟨q, fb, rfl, hsr, hfb, hx⟩
 have HX03 := Lib.hid (belowThen HX02.out (Nat.le_refl _) hx)
 go_wp2_with fail
 refine ⟨fun w' => w' = w3, rfl, ?_⟩
 repeat (first | go_big_quiet_skip | go_big_quiet_step (fail))
 refine wpQuiet_nil ?_
 intro wq hwq
 rw [show wq = w3 from hwq]
 clear hwq wq
 have H53 := Lib.hid (H52.out.below hx)
 have HB3 := Lib.hid (HB.out.below HX03.out)
 have HSR := Lib.hid hsr
 have HFB := Lib.hid hfb
 have hqk : q ≤ kl.length := hsr.top
 clear hx hsr hfb H51 H52
 cases fb with
 | true =>
  obtain ⟨⟨a', u⟩, hzk, hza⟩ := HFB.out.1 rfl
  obtain rfl : a' = a := hza
  have HZK := Lib.hid hzk
  have HUO := Lib.hid (okL_mem (kids_ok HOK.out) (List.mem_of_getElem? hzk))
  have HPT := Lib.hid (show put (.mk 4 b kl) tx (a' :: l) = (put u tx l).map fun y => .mk 4 b (kl.set q (a', y)) by
   simp only [put, T.kind, T.kids, T.bytes, if_true, SrK.found HRI.out hzk rfl, Option.getD_some]
   congr 1
   funext y
   rw [putK_set kl q a' u y HRI.out hzk])
  clear hzk
  obtain ⟨vk, hvk⟩ : ∃ vk : SV, vk = nks := ⟨_, rfl⟩
  have HVK := Lib.hid (show ∀ j ∈ ownB vk.1, j ∈ ownB nks.1 ∨ w.heap.size ≤ j from fun j hj => .inl (by rw [← hvk]; exact hj))
  have HBt := Lib.hid (show Blk w3 g ty (xs ++ (ndC (4, nb, vk) ++ zs)) by rw [hvk]; exact HB3.out)
  have HKt := Lib.hid (show Agg.Own EK base w3 vk.1 ks by rw [hvk]; exact HKS.out.below HX03.out)
  have HNt := Lib.hid (show (g :: ((ownB nb.1 ++ (ownB vk.1 ++ cs)) ++ bx)).Nodup by rw [hvk]; exact HND.out)
  have HTt := Lib.hid (show ∀ j ∈ g :: ((ownB nb.1 ++ (ownB vk.1 ++ cs)) ++ bx), j < w3.heap.size by rw [hvk]; exact fun j hj => Nat.lt_of_lt_of_le (HLT.out j hj) HX03.out.size)
  have HLt := Lib.hid (HKL.out.below HX03.out)
  have HYt := Lib.hid (HBY.out.below HX03.out)
  have HXt := Lib.hid (OwnT.below HX03.out HX.out)
  have HSt := Lib.hid (SliceOf.below HL.out HX03.out)
  have HOt := Lib.hid (Only.of_below (S := fun j => j = g ∨ j ∈ ownB nb.1 ++ (ownB nks.1 ++ cs)) HX03.out)
  have HZt := Lib.hid HX03.out.size
  clear hvk
  obtain ⟨y, b2, c1, c2, hyk, hyt, hcs, hturn⟩ := HLt.out.turn HZK.out
  obtain ⟨gk, cap, xk, zk, hv, hcp, hgb, hbk, hxk, hupd⟩ := own_kid HKt.out hyk
  have hvg : ownB vk.1 = [gk] := by rw [hv]; rfl
  have hkk : q < ks.length := (List.getElem?_eq_some_iff.1 hyk).1
  have hkx := kidX_at gk ks.length cap q hkk
  have HKD := Lib.hid (show LoadsL Tryd.prog w3 24 (some (Addr.add ⟨g, xs.size, none⟩ 2)) (.slice (some ⟨gk, 0, none⟩) ks.length cap) by have h := (ndl_mid HBt.out).kids; rw [show (((4 : Int), nb, vk) : NdV).2.2.1 = _ from hv] at h; exact h)
  have HXK := Lib.hid (And.intro hxk hvg)
  have HUP := Lib.hid hupd
  have HTU := Lib.hid (And.intro hcs @hturn)
  have HBK := Lib.hid hbk
  have HYT := Lib.hid hyt
  clear hyk hyt hcs hturn hupd hbk hxk hv hcp hvg
  go_wp2_with fail
  try simp only [List.append_eq, List.cons_append, List.nil_append]
  try simp only [Act.put, List.setIfInBounds_toArray, List.set_cons_succ, List.set_cons_zero]
  refine Agg.wp_region_mid 10 11 (fun w' => ∃ x : Later w3, w' = x.w) (by kernel_rfl) (by kernel_rfl) ⟨⟨_, (Below.refl _ _).drew⟩, rfl⟩ ?_
  simp only [List.take_succ_cons, List.take_zero, List.drop_succ_cons, List.drop_zero]
  repeat (first | go_big_quiet_skip | ((first | (with_reducible refine wpQuiet_loadL HKD.out rfl _ rfl rfl ?_) | (with_reducible refine wpQuiet_loadL (NdL.of_blk H53.out).all rfl _ rfl rfl ?_)); simp only [Act.put, List.setIfInBounds_toArray, List.set_cons_succ, List.set_cons_zero]) | go_big_quiet_step (fail))
  refine wpQuiet_nil ?_
  intro _ hw'
  obtain ⟨x1, rfl⟩ := hw'
  obtain ⟨w8, hw8⟩ : ∃ W, W = x1.w := ⟨_, rfl⟩
  have hx8 : Below w3.heap.size w3 w8 := by rw [hw8]; exact x1.h
  rw [← hw8]
  clear hw8 x1
  have HX8 := Lib.hid hx8
  clear hx8 hkx
  have HCALL := Lib.hid (show Calls Tryd.prog 40 #[.pointer (some ⟨gk, q * 4 + 1, none⟩), vr, .agg (ndC xv)] w8 (PutQ base gk 51 xk zk b2 bx (put u tx l) w8) by
   have hn := HNt.out
   rw [HTU.out.1, HXK.out.2] at hn
   have h := HIH.out u tx HUO.out y xv b2 bx base gk 51 xk zk vr w8 (SliceOf.below (HVS.out _ HSt.out) HX8.out) (fun j hj => by
    obtain ⟨h1, h2, h3⟩ := HVL.out j (HVB.out j hj)
    refine ⟨fun e => ?_, fun hm => ?_, Nat.lt_of_lt_of_le h3 (Nat.le_trans HZt.out HX8.out.size)⟩
    ·rcases HVK.out gk (by rw [HXK.out.2]; simp) with h4 | h4
     ·exact h2 (by rw [e]; simp [h4])
     ·omega
    ·exact h2 (by rw [HTU.out.1]; simp [hm])) HVC.out (HBK.out.below HX8.out) (OwnT.below HX8.out HYT.out) (OwnT.below HX8.out HXt.out)
    (List.nodup_iff_count.2 fun j => by
     have h := List.nodup_iff_count.1 hn j
     simp only [List.count_cons, List.count_append, List.count_nil] at h ⊢
     omega) (Nat.le_trans hbase (Nat.le_trans HZt.out HX8.out.size))
   rwa [HXK.out.1] at h)
  go_wp2_with fail
  refine HCALL.out.mono ?_
  intro e w9 hq
  obtain ⟨e', rfl, hq⟩ := hq
  have HQ := Lib.hid (show PutQ base gk 51 xk zk b2 bx (put u tx l) w8 (.returned (.int .i64 (e' : Int))) w9 from ⟨e', rfl, hq⟩)
  clear hq
  go_wp2_with fail
  refine ⟨fun w' => w' = w9, rfl, ?_⟩
  repeat (first | go_big_quiet_skip | go_big_quiet_step (fail))
  refine wpQuiet_nil ?_
  intro wq hwq
  rw [show wq = w9 from hwq]
  clear hwq wq
  go_wp2_with fail
  go_ret
  exact put_end (y := y) (ks := ks) (kl := kl) (nks := nks) (HBt.out.below HX8.out) (HYt.out.below HX8.out) HTU.out.1 HXK.out.2 (fun {S} {W'} ho h1 h2 => HTU.out.2 (S := fun j => S j) ((Only.of_below (S := S) HX8.out).then2 ho) h1 h2) HUP.out HNt.out (fun j hj => Nat.lt_of_lt_of_le (HTt.out j hj) HX8.out.size) (Nat.le_trans HZt.out HX8.out.size) (HOt.out.thenB HX8.out) HVK.out HQ.out HPT.out
 | false =>
  have HNF := Lib.hid (show ∀ y, kl[q]? = some y → y.1 ≠ a from fun z hz e => by have := HFB.out.2 ⟨z, hz, e⟩; cases this)
  have HDG := Lib.hid (show ∀ j, j ∈ ownB nb.1 ∨ j ∈ cs ∨ j ∈ bx → j ≠ g from fun j hj e => by
   have h := (List.nodup_cons.1 HND.out).1
   subst e
   rcases hj with h1 | h1 | h1 <;> exact h (by simp [h1]))
  have HDB := Lib.hid (show ∀ j ∈ ownB nks.1, j ∉ ownB nb.1 ∧ j ∉ cs ∧ j ∉ bx ∧ j ≠ g from fun j hj => by
   have h := List.nodup_iff_count.1 HND.out j
   simp only [List.count_cons, List.count_append] at h
   have h1 := List.count_pos_iff.2 hj
   refine ⟨fun h2 => ?_, fun h2 => ?_, fun h2 => ?_, fun h2 => ?_⟩
   ·have := List.count_pos_iff.2 h2; omega
   ·have := List.count_pos_iff.2 h2; omega
   ·have := List.count_pos_iff.2 h2; omega
   ·have hg1 : (if (g == j) = true then 1 else 0) = 1 := by simp [h2]
    omega)
  have HLT3 := Lib.hid (show ∀ j ∈ g :: ((ownB nb.1 ++ (ownB nks.1 ++ cs)) ++ bx), j < w3.heap.size from fun j hj => Nat.lt_of_lt_of_le (HLT.out j hj) HX03.out.size)
  have HEI := Lib.hid (enters_of Tryd.func69 (by kernel_rfl) rfl : ∀ args w, (callFunc 69 args).run Tryd.prog w = .ok (.enter 69 args) w)
  go_wp2_with fail
  refine Agg.wp_cutR (fun a0 a' w' => ∃ vk : SV, Agg.Own EK base w' vk.1 (ks.take q ++ (a, ((4 : Int), svN, svN)) :: ks.drop q) ∧ OwnL base w' (ks.take q ++ (a, ((4 : Int), svN, svN)) :: ks.drop q) (kl.take q ++ (a, dirT) :: kl.drop q) cs ∧ Agg.Own EB base w' nb.1 b ∧ OwnT base w' xv tx bx ∧ Blk w' g ty (xs ++ (ndC (4, nb, vk) ++ zs)) ∧ Blk w' g5 26 (ndC xv) ∧ SliceOf ES w' vl (a :: l) ∧ Only (fun j => j = g ∨ j ∈ ownB nb.1 ++ (ownB nks.1 ++ cs)) w w' ∧ (∀ j ∈ ownB vk.1, j ∈ ownB nks.1 ∨ w3.heap.size ≤ j) ∧ w3.heap.size ≤ w'.heap.size ∧ ExPut [32, 33, 34, 35, 36, 37, 38, 39, 40, 41, 42, 43, 44, 45, 46] a0 a') ?_ ?_
  ·try simp only [Act.put, List.setIfInBounds_toArray, List.set_cons_succ, List.set_cons_zero]
   obtain ⟨wa, hwa⟩ : ∃ W, W = w3.drew := ⟨_, rfl⟩
   have hda : Below w3.heap.size w3 wa := by rw [hwa]; exact (Below.refl _ _).drew
   have hwb : Below w.heap.size w wa := belowThen HX03.out (Nat.le_refl _) hda
   have HB_ := Lib.hid (HB.out.below hwb)
   have H5_ := Lib.hid (H53.out.below hda)
   have HKS_ := Lib.hid (HKS.out.below hwb)
   have HKL_ := Lib.hid (HKL.out.below hwb)
   have HBY_ := Lib.hid (HBY.out.below hwb)
   have HX_ := Lib.hid (OwnT.below hwb HX.out)
   have HL_ := Lib.hid (SliceOf.below HL.out hwb)
   have HOO_ := Lib.hid (Only.of_below (S := fun j => j = g ∨ j ∈ ownB nb.1 ++ (ownB nks.1 ++ cs)) hwb)
   have HZ_ := Lib.hid hda.size
   refine wp_region_held_drew (S := fun W => (∃ vq : SV, Blk W g ty (xs ++ (ndC (4, nb, vq) ++ zs))) ∧ SliceOf ES W vl (a :: l)) (by kernel_rfl) (by rw [← hwa]; exact ⟨⟨_, HB_.out⟩, HL_.out⟩) (fun hHeld => ?_)
   rw [← hwa] at hHeld ⊢
   clear hwa hda hwb
   refine held_take 0 (.pointer (some ⟨g, xs.size, none⟩)) rfl (by kernel_rfl) (fun _ _ _ h => h) rfl (fun W _ => by first | kernel_rfl | rfl | simp [execOp]) (by assumption) ?_
   try simp only [Act.put, List.setIfInBounds_toArray, List.set_cons_succ, List.set_cons_zero]
   refine held_take 1 (.pointer (some ⟨g, xs.size, none⟩)) rfl (by kernel_rfl) (fun _ _ _ h => h) rfl (fun W _ => by first | kernel_rfl | rfl | simp [execOp]) (by assumption) ?_
   try simp only [Act.put, List.setIfInBounds_toArray, List.set_cons_succ, List.set_cons_zero]
   refine held_take 2 (.pointer (some ⟨g, xs.size, none⟩)) rfl (by kernel_rfl) (fun _ _ _ h => h) rfl (fun W _ => by first | kernel_rfl | rfl | simp [execOp]) (by assumption) ?_
   try simp only [Act.put, List.setIfInBounds_toArray, List.set_cons_succ, List.set_cons_zero]
   refine held_take 3 (.pointer (some ⟨g, xs.size + 2, none⟩)) rfl (by kernel_rfl) (fun _ _ _ h => h) rfl (fun W _ => by first | kernel_rfl | rfl | simp [execOp]) (by assumption) ?_
   try simp only [Act.put, List.setIfInBounds_toArray, List.set_cons_succ, List.set_cons_zero]
   refine held_take 5 (.int .i64 (q : Int)) rfl (by kernel_rfl) (fun _ _ _ h => h) rfl (fun W _ => by first | kernel_rfl | rfl | simp [execOp]) (by assumption) ?_
   try simp only [Act.put, List.setIfInBounds_toArray, List.set_cons_succ, List.set_cons_zero]
   refine held_take 6 (vl) rfl (by kernel_rfl) (fun _ _ _ h => h) rfl (fun W _ => by first | kernel_rfl | rfl | simp [execOp]) (by assumption) ?_
   try simp only [Act.put, List.setIfInBounds_toArray, List.set_cons_succ, List.set_cons_zero]
   refine held_take 7 (.pointer (some pa)) rfl (by kernel_rfl) (fun _ _ _ h => h) rfl (fun W _ => exec_idx rfl rfl rfl (HADR.out W)) (by assumption) ?_
   try simp only [Act.put, List.setIfInBounds_toArray, List.set_cons_succ, List.set_cons_zero]
   refine held_take 8 (.string ⟨a.toArray⟩) rfl (by kernel_rfl) (fun _ _ _ h => h) rfl (fun W hS => exec_loadB rfl rfl (names_load hS.2 HADR.out).now) (by assumption) ?_
   try simp only [Act.put, List.setIfInBounds_toArray, List.set_cons_succ, List.set_cons_zero]
   refine held_take 9 (.agg (ndC (4, svN, svN))) rfl (by kernel_rfl) (fun _ _ _ h => h) rfl (fun W _ => exec_b1 rfl rfl (nd_build4 W)) (by assumption) ?_
   try simp only [Act.put, List.setIfInBounds_toArray, List.set_cons_succ, List.set_cons_zero]
   refine held_take 10 (.agg (kdC (a, ((4 : Int), svN, svN)))) rfl (by kernel_rfl) (fun _ _ _ h => h) rfl (fun W _ => exec_b2 rfl rfl rfl (kd_build a (4, svN, svN) W)) (by assumption) ?_
   try simp only [Act.put, List.setIfInBounds_toArray, List.set_cons_succ, List.set_cons_zero]
   refine held_ready [4, 11] (by kernel_rfl) (by simp) ?_
   refine held_cons rfl ?_ ?_
   ·refine step_load rfl 24 _ rfl (.pointer (some ⟨g, xs.size + 2, none⟩)) nks.1 rfl (ndl_mid HB_.out).kids.now ?_
    refine ⟨⟨⟨_, HB_.out⟩, HL_.out⟩, ?_⟩
    try simp only [Act.put, List.setIfInBounds_toArray, List.set_cons_succ, List.set_cons_zero]
    refine held_one 11 rfl (by kernel_rfl) ?_
    refine Agg.step_oneE (E := EK) rfl _ rfl (a, ((4 : Int), svN, svN)) rfl ?_
    intro gv wa_11 hv hx hgv
    have HV_11 := Lib.hid (show Blk wa_11 gv 51 (kdC (a, ((4 : Int), svN, svN))) from hv)
    have HGV := Lib.hid (show w.heap.size ≤ gv from Nat.le_trans HOO_.out.size hgv)
    have HB_11 := Lib.hid (HB_.out.below hx)
    have H5_11 := Lib.hid (H5_.out.below hx)
    have HKS_11 := Lib.hid (HKS_.out.below hx)
    have HKL_11 := Lib.hid (HKL_.out.below hx)
    have HBY_11 := Lib.hid (HBY_.out.below hx)
    have HX_11 := Lib.hid (OwnT.below hx HX_.out)
    have HL_11 := Lib.hid (SliceOf.below HL_.out hx)
    have HOO_11 := Lib.hid (HOO_.out.thenB hx)
    have HZ_11 := Lib.hid (Nat.le_trans HZ_.out hx.size)
    clear hv hx hgv
    refine ⟨⟨⟨_, HB_11.out⟩, HL_11.out⟩, ?_⟩
    try simp only [Act.put, List.setIfInBounds_toArray, List.set_cons_succ, List.set_cons_zero]
    refine held_one 12 rfl (by kernel_rfl) ?_
    refine step_call rfl 69 _ _ rfl #[nks.1, .int .i64 (q : Int), .slice (some ⟨gv, 0, none⟩) 1 1] (by simp only [List.map_toArray, List.map_cons, List.map_nil]; rfl) (fun W => HEI.out _ W) ?_
    refine (insertK_any nks.1 ks (by omega) base gv q (a, ((4 : Int), svN, svN)) _ HKS_11.out HV_11.out (fun j hj e => by have h1 := (own_range HKS.out j (mem_ownB.2 hj)).2; have h2 := HGV.out; omega) (Nat.le_trans hbase HOO_11.out.size) (by omega)).mono ?_
    rintro e Za ⟨v0, rfl, ho, hp, hgr⟩
    obtain ⟨vk, rfl⟩ := own_sv ho
    have hon := hp.only
    have hds : ∀ j, nks.1.ownBlock = some j → j ∉ ownB nb.1 ∧ j ∉ cs ∧ j ∉ bx ∧ j ≠ g := fun j hj => HDB.out j (mem_ownB.2 hj)
    have Zq := Lib.hid (show Agg.Own EK base Za vk.1 (ks.take q ++ (a, ((4 : Int), svN, svN)) :: ks.drop q) from ho)
    have Zr := Lib.hid ((OwnL.only hon _ _ _ HKL_11.out (fun j hj h => (hds j h).2.1 hj)).ins q a)
    have Zs := Lib.hid (own_stays HBY_11.out hon (fun j hj h => (hds j h).1 hj))
    have Zu := Lib.hid (OwnT.only hon _ _ _ HX_11.out (fun j hj h => (hds j h).2.2.1 hj))
    have Zj := Lib.hid (Agg.Blk.keepO HB_11.out hon (fun h => (hds g h).2.2.2 rfl))
    have Zt := Lib.hid (show Blk Za g5 26 (ndC xv) from hp.blk g5 _ _ _ (show 26 ≠ 51 by decide) H5_11.out)
    have Zh := Lib.hid (HL_11.out.onlyS hon (fun j hj h => (HVL.out j hj).2.1 (by simp [mem_ownB.2 h])))
    have Zp := Lib.hid (HOO_11.out.then2 (hon.mono (fun i _ h => .inr (by simp [mem_ownB.2 h]))))
    have Zd := Lib.hid (show ∀ j ∈ ownB vk.1, j ∈ ownB nks.1 ∨ w3.heap.size ≤ j from fun j hj => (hgr j (mem_ownB.1 hj)).imp mem_ownB.2 (fun h => Nat.le_trans HZ_11.out h))
    have Zx := Lib.hid (Nat.le_trans HZ_11.out hp.size)
    clear ho hp hgr hon hds
    have Zv : (∃ vq : SV, Blk Za g ty (xs ++ (ndC (4, nb, vq) ++ zs))) ∧ SliceOf ES Za vl (a :: l) := ⟨⟨_, Zj.out⟩, Zh.out⟩
    refine ⟨_, rfl, ?_⟩
    refine ⟨Zv, ?_⟩
    try simp only [Act.put, List.setIfInBounds_toArray, List.set_cons_succ, List.set_cons_zero]
    refine held_take 13 (.pointer (some ⟨g, xs.size, none⟩)) rfl (by kernel_rfl) (fun _ _ _ h => h) rfl (fun W _ => by first | kernel_rfl | rfl | simp [execOp]) (by assumption) ?_
    try simp only [Act.put, List.setIfInBounds_toArray, List.set_cons_succ, List.set_cons_zero]
    refine held_take 14 (.pointer (some ⟨g, xs.size + 2, none⟩)) rfl (by kernel_rfl) (fun _ _ _ h => h) rfl (fun W _ => by first | kernel_rfl | rfl | simp [execOp]) (by assumption) ?_
    try simp only [Act.put, List.setIfInBounds_toArray, List.set_cons_succ, List.set_cons_zero]
    refine held_one 15 rfl (by kernel_rfl) ?_
    obtain ⟨Zy, hrun, hbf, hof⟩ := Agg.Blk.run_one (P := Tryd.prog) (ty := 24) Zj.out (xs.size + 2) (by simp only [Array.size_append, ndC_size]; omega) vk.1 (sv_cells vk) (sv_oneT vk) (by kernel_rfl) (xs ++ (ndC (4, nb, vk) ++ zs)) (mid_kids xs zs (4, nb, nks) vk)
    refine step_store rfl rfl 24 _ _ rfl (.pointer (some ⟨g, xs.size + 2, none⟩)) vk.1 rfl rfl hrun ?_
    have Ze := Lib.hid (own_stays Zq.out hof (fun j hj e => by rcases Zd.out j hj with h | h; exact (HDB.out j h).2.2.2 e; have := HLT3.out g (by simp); omega))
    have Zg := Lib.hid (OwnL.only hof _ _ _ Zr.out (fun j hj e => HDG.out j (.inr (.inl hj)) e))
    have Zf := Lib.hid (own_stays Zs.out hof (fun j hj e => HDG.out j (.inl hj) e))
    have Zm := Lib.hid (OwnT.only hof _ _ _ Zu.out (fun j hj e => HDG.out j (.inr (.inr hj)) e))
    have Zb := Lib.hid hbf
    have Zn := Lib.hid (Agg.Blk.keepO Zt.out hof (fun e => HG5.out e))
    have Zc := Lib.hid (Zh.out.onlyS hof (fun j hj e => (HVL.out j hj).1 e))
    have Zk := Lib.hid (Zp.out.then2 (hof.mono (fun i _ e => .inl e)))
    have Zi := Zd
    have Zo := Lib.hid (Nat.le_trans Zx.out hof.size)
    clear hrun hbf hof
    refine ⟨⟨⟨_, Zb.out⟩, Zc.out⟩, ?_⟩
    try simp only [Act.put, List.setIfInBounds_toArray, List.set_cons_succ, List.set_cons_zero]
    refine held_end (by kernel_rfl) ?_
    simp only [ExPut, Act.put, List.setIfInBounds_toArray, List.set_cons_succ, List.set_cons_zero]
    exact ⟨vk, Ze.out, Zg.out, Zf.out, Zm.out, Zb.out, Zn.out, Zc.out, Zk.out, Zi.out, Zo.out, _, _, _, _, _, _, _, _, _, _, _, _, _, _, _, rfl⟩
   refine held_cons rfl ?_ ?_
   ·refine Agg.step_oneE (E := EK) rfl _ rfl (a, ((4 : Int), svN, svN)) rfl ?_
    intro gv wa_11 hv hx hgv
    have HV_11 := Lib.hid (show Blk wa_11 gv 51 (kdC (a, ((4 : Int), svN, svN))) from hv)
    have HGV := Lib.hid (show w.heap.size ≤ gv from Nat.le_trans HOO_.out.size hgv)
    have HB_11 := Lib.hid (HB_.out.below hx)
    have H5_11 := Lib.hid (H5_.out.below hx)
    have HKS_11 := Lib.hid (HKS_.out.below hx)
    have HKL_11 := Lib.hid (HKL_.out.below hx)
    have HBY_11 := Lib.hid (HBY_.out.below hx)
    have HX_11 := Lib.hid (OwnT.below hx HX_.out)
    have HL_11 := Lib.hid (SliceOf.below HL_.out hx)
    have HOO_11 := Lib.hid (HOO_.out.thenB hx)
    have HZ_11 := Lib.hid (Nat.le_trans HZ_.out hx.size)
    clear hv hx hgv
    refine ⟨⟨⟨_, HB_11.out⟩, HL_11.out⟩, ?_⟩
    try simp only [Act.put, List.setIfInBounds_toArray, List.set_cons_succ, List.set_cons_zero]
    refine held_one 4 rfl (by kernel_rfl) ?_
    refine step_load rfl 24 _ rfl (.pointer (some ⟨g, xs.size + 2, none⟩)) nks.1 rfl (ndl_mid HB_11.out).kids.now ?_
    refine ⟨⟨⟨_, HB_11.out⟩, HL_11.out⟩, ?_⟩
    try simp only [Act.put, List.setIfInBounds_toArray, List.set_cons_succ, List.set_cons_zero]
    refine held_one 12 rfl (by kernel_rfl) ?_
    refine step_call rfl 69 _ _ rfl #[nks.1, .int .i64 (q : Int), .slice (some ⟨gv, 0, none⟩) 1 1] (by simp only [List.map_toArray, List.map_cons, List.map_nil]; rfl) (fun W => HEI.out _ W) ?_
    refine (insertK_any nks.1 ks (by omega) base gv q (a, ((4 : Int), svN, svN)) _ HKS_11.out HV_11.out (fun j hj e => by have h1 := (own_range HKS.out j (mem_ownB.2 hj)).2; have h2 := HGV.out; omega) (Nat.le_trans hbase HOO_11.out.size) (by omega)).mono ?_
    rintro e Za ⟨v0, rfl, ho, hp, hgr⟩
    obtain ⟨vk, rfl⟩ := own_sv ho
    have hon := hp.only
    have hds : ∀ j, nks.1.ownBlock = some j → j ∉ ownB nb.1 ∧ j ∉ cs ∧ j ∉ bx ∧ j ≠ g := fun j hj => HDB.out j (mem_ownB.2 hj)
    have Zq := Lib.hid (show Agg.Own EK base Za vk.1 (ks.take q ++ (a, ((4 : Int), svN, svN)) :: ks.drop q) from ho)
    have Zr := Lib.hid ((OwnL.only hon _ _ _ HKL_11.out (fun j hj h => (hds j h).2.1 hj)).ins q a)
    have Zs := Lib.hid (own_stays HBY_11.out hon (fun j hj h => (hds j h).1 hj))
    have Zu := Lib.hid (OwnT.only hon _ _ _ HX_11.out (fun j hj h => (hds j h).2.2.1 hj))
    have Zj := Lib.hid (Agg.Blk.keepO HB_11.out hon (fun h => (hds g h).2.2.2 rfl))
    have Zt := Lib.hid (show Blk Za g5 26 (ndC xv) from hp.blk g5 _ _ _ (show 26 ≠ 51 by decide) H5_11.out)
    have Zh := Lib.hid (HL_11.out.onlyS hon (fun j hj h => (HVL.out j hj).2.1 (by simp [mem_ownB.2 h])))
    have Zp := Lib.hid (HOO_11.out.then2 (hon.mono (fun i _ h => .inr (by simp [mem_ownB.2 h]))))
    have Zd := Lib.hid (show ∀ j ∈ ownB vk.1, j ∈ ownB nks.1 ∨ w3.heap.size ≤ j from fun j hj => (hgr j (mem_ownB.1 hj)).imp mem_ownB.2 (fun h => Nat.le_trans HZ_11.out h))
    have Zx := Lib.hid (Nat.le_trans HZ_11.out hp.size)
    clear ho hp hgr hon hds
    have Zv : (∃ vq : SV, Blk Za g ty (xs ++ (ndC (4, nb, vq) ++ zs))) ∧ SliceOf ES Za vl (a :: l) := ⟨⟨_, Zj.out⟩, Zh.out⟩
    refine ⟨_, rfl, ?_⟩
    refine ⟨Zv, ?_⟩
    try simp only [Act.put, List.setIfInBounds_toArray, List.set_cons_succ, List.set_cons_zero]
    refine held_take 13 (.pointer (some ⟨g, xs.size, none⟩)) rfl (by kernel_rfl) (fun _ _ _ h => h) rfl (fun W _ => by first | kernel_rfl | rfl | simp [execOp]) (by assumption) ?_
    try simp only [Act.put, List.setIfInBounds_toArray, List.set_cons_succ, List.set_cons_zero]
    refine held_take 14 (.pointer (some ⟨g, xs.size + 2, none⟩)) rfl (by kernel_rfl) (fun _ _ _ h => h) rfl (fun W _ => by first | kernel_rfl | rfl | simp [execOp]) (by assumption) ?_
    try simp only [Act.put, List.setIfInBounds_toArray, List.set_cons_succ, List.set_cons_zero]
    refine held_one 15 rfl (by kernel_rfl) ?_
    obtain ⟨Zy, hrun, hbf, hof⟩ := Agg.Blk.run_one (P := Tryd.prog) (ty := 24) Zj.out (xs.size + 2) (by simp only [Array.size_append, ndC_size]; omega) vk.1 (sv_cells vk) (sv_oneT vk) (by kernel_rfl) (xs ++ (ndC (4, nb, vk) ++ zs)) (mid_kids xs zs (4, nb, nks) vk)
    refine step_store rfl rfl 24 _ _ rfl (.pointer (some ⟨g, xs.size + 2, none⟩)) vk.1 rfl rfl hrun ?_
    have Ze := Lib.hid (own_stays Zq.out hof (fun j hj e => by rcases Zd.out j hj with h | h; exact (HDB.out j h).2.2.2 e; have := HLT3.out g (by simp); omega))
    have Zg := Lib.hid (OwnL.only hof _ _ _ Zr.out (fun j hj e => HDG.out j (.inr (.inl hj)) e))
    have Zf := Lib.hid (own_stays Zs.out hof (fun j hj e => HDG.out j (.inl hj) e))
    have Zm := Lib.hid (OwnT.only hof _ _ _ Zu.out (fun j hj e => HDG.out j (.inr (.inr hj)) e))
    have Zb := Lib.hid hbf
    have Zn := Lib.hid (Agg.Blk.keepO Zt.out hof (fun e => HG5.out e))
    have Zc := Lib.hid (Zh.out.onlyS hof (fun j hj e => (HVL.out j hj).1 e))
    have Zk := Lib.hid (Zp.out.then2 (hof.mono (fun i _ e => .inl e)))
    have Zi := Zd
    have Zo := Lib.hid (Nat.le_trans Zx.out hof.size)
    clear hrun hbf hof
    refine ⟨⟨⟨_, Zb.out⟩, Zc.out⟩, ?_⟩
    try simp only [Act.put, List.setIfInBounds_toArray, List.set_cons_succ, List.set_cons_zero]
    refine held_end (by kernel_rfl) ?_
    simp only [ExPut, Act.put, List.setIfInBounds_toArray, List.set_cons_succ, List.set_cons_zero]
    exact ⟨vk, Ze.out, Zg.out, Zf.out, Zm.out, Zb.out, Zn.out, Zc.out, Zk.out, Zi.out, Zo.out, _, _, _, _, _, _, _, _, _, _, _, _, _, _, _, rfl⟩
   exact AllReadyH.nil
  ·rintro a' wb ⟨vk, hkn, hkl, hby, hx, hb, h5, hl, hoo, hvk, hz, hex⟩
   simp only [ExPut, Act.put, List.setIfInBounds_toArray, List.set_cons_succ, List.set_cons_zero] at hex
   obtain ⟨y32, y33, y34, y35, y36, y37, y38, y39, y40, y41, y42, y43, y44, y45, y46, rfl⟩ := hex
   obtain ⟨ks2, hks2⟩ : ∃ x, x = (ks.take q ++ (a, ((4 : Int), svN, svN)) :: ks.drop q) := ⟨_, rfl⟩
   obtain ⟨kl2, hkl2⟩ : ∃ x, x = (kl.take q ++ (a, dirT) :: kl.drop q) := ⟨_, rfl⟩
   rw [← hks2] at hkn hkl
   rw [← hkl2] at hkl
   have hzq : kl2[q]? = some (a, dirT) := by
    rw [hkl2, List.getElem?_append_right (by rw [List.length_take]; omega), List.length_take, Nat.min_eq_left hqk, Nat.sub_self]
    rfl
   have HZK := Lib.hid hzq
   have HPT := Lib.hid (show put (.mk 4 b kl) tx (a :: l) = (put dirT tx l).map fun y => .mk 4 b (kl2.set q (a, y)) by
    simp only [put, T.kind, T.kids, T.bytes, if_true, SrK.lost HRI.out HSR.out HNF.out, Option.getD_none]
    congr 1
    funext y
    rw [putK_ins kl q a y HSR.out HNF.out, hkl2, List.set_append_right _ _ (by rw [List.length_take]; omega), List.length_take, Nat.min_eq_left hqk, Nat.sub_self]
    rfl)
   obtain ⟨u, hu⟩ : ∃ u, u = dirT := ⟨_, rfl⟩
   rw [← hu] at HZK HPT
   have HUO := Lib.hid (show ok u = true by rw [hu]; decide +kernel)
   have HVK := Lib.hid (show ∀ j ∈ ownB vk.1, j ∈ ownB nks.1 ∨ w.heap.size ≤ j from fun j hj => (hvk j hj).imp id (fun h => Nat.le_trans HX03.out.size h))
   have HBt := Lib.hid hb
   have HKt := Lib.hid hkn
   have HNt := Lib.hid (show (g :: ((ownB nb.1 ++ (ownB vk.1 ++ cs)) ++ bx)).Nodup from nodup_swap HND.out HLT3.out (ownB_nodup _) hvk)
   have HTt := Lib.hid (show ∀ j ∈ g :: ((ownB nb.1 ++ (ownB vk.1 ++ cs)) ++ bx), j < wb.heap.size from fun j hj => by
    have h3 : ∀ j ∈ g :: ((ownB nb.1 ++ (ownB nks.1 ++ cs)) ++ bx), j < wb.heap.size := fun j hj => Nat.lt_of_lt_of_le (HLT3.out j hj) hz
    simp only [List.mem_cons, List.mem_append] at hj h3
    rcases hj with h | (h | h | h) | h
    ·exact h3 j (.inl h)
    ·exact h3 j (by simp [h])
    ·exact (own_range hkn j h).2
    ·exact h3 j (by simp [h])
    ·exact h3 j (by simp [h]))
   have HLt := Lib.hid hkl
   have HYt := Lib.hid hby
   have HXt := Lib.hid hx
   have HSt := Lib.hid hl
   have HOt := Lib.hid hoo
   have HZt := Lib.hid (Nat.le_trans HX03.out.size hz)
   have H5b := Lib.hid h5
   clear hkn hkl hby hx hb h5 hl hoo hvk hz hzq hu hks2 hkl2
   obtain ⟨y, b2, c1, c2, hyk, hyt, hcs, hturn⟩ := HLt.out.turn HZK.out
   obtain ⟨gk, cap, xk, zk, hv, hcp, hgb, hbk, hxk, hupd⟩ := own_kid HKt.out hyk
   have hvg : ownB vk.1 = [gk] := by rw [hv]; rfl
   have hkk : q < ks2.length := (List.getElem?_eq_some_iff.1 hyk).1
   have hkx := kidX_at gk ks2.length cap q hkk
   have HKD := Lib.hid (show LoadsL Tryd.prog wb 24 (some (Addr.add ⟨g, xs.size, none⟩ 2)) (.slice (some ⟨gk, 0, none⟩) ks2.length cap) by have h := (ndl_mid HBt.out).kids; rw [show (((4 : Int), nb, vk) : NdV).2.2.1 = _ from hv] at h; exact h)
   have HXK := Lib.hid (And.intro hxk hvg)
   have HUP := Lib.hid hupd
   have HTU := Lib.hid (And.intro hcs @hturn)
   have HBK := Lib.hid hbk
   have HYT := Lib.hid hyt
   clear hyk hyt hcs hturn hupd hbk hxk hv hcp hvg
   go_wp2_with fail
   try simp only [List.append_eq, List.cons_append, List.nil_append]
   try simp only [Act.put, List.setIfInBounds_toArray, List.set_cons_succ, List.set_cons_zero]
   refine Agg.wp_region_mid 10 11 (fun w' => ∃ x : Later wb, w' = x.w) (by kernel_rfl) (by kernel_rfl) ⟨⟨_, (Below.refl _ _).drew⟩, rfl⟩ ?_
   simp only [List.take_succ_cons, List.take_zero, List.drop_succ_cons, List.drop_zero]
   repeat (first | go_big_quiet_skip | ((first | (with_reducible refine wpQuiet_loadL HKD.out rfl _ rfl rfl ?_) | (with_reducible refine wpQuiet_loadL (NdL.of_blk H5b.out).all rfl _ rfl rfl ?_)); simp only [Act.put, List.setIfInBounds_toArray, List.set_cons_succ, List.set_cons_zero]) | go_big_quiet_step (fail))
   refine wpQuiet_nil ?_
   intro _ hw'
   obtain ⟨x1, rfl⟩ := hw'
   obtain ⟨w8, hw8⟩ : ∃ W, W = x1.w := ⟨_, rfl⟩
   have hx8 : Below wb.heap.size wb w8 := by rw [hw8]; exact x1.h
   rw [← hw8]
   clear hw8 x1
   have HX8 := Lib.hid hx8
   clear hx8 hkx
   have HCALL := Lib.hid (show Calls Tryd.prog 40 #[.pointer (some ⟨gk, q * 4 + 1, none⟩), vr, .agg (ndC xv)] w8 (PutQ base gk 51 xk zk b2 bx (put u tx l) w8) by
    have hn := HNt.out
    rw [HTU.out.1, HXK.out.2] at hn
    have h := HIH.out u tx HUO.out y xv b2 bx base gk 51 xk zk vr w8 (SliceOf.below (HVS.out _ HSt.out) HX8.out) (fun j hj => by
     obtain ⟨h1, h2, h3⟩ := HVL.out j (HVB.out j hj)
     refine ⟨fun e => ?_, fun hm => ?_, Nat.lt_of_lt_of_le h3 (Nat.le_trans HZt.out HX8.out.size)⟩
     ·rcases HVK.out gk (by rw [HXK.out.2]; simp) with h4 | h4
      ·exact h2 (by rw [e]; simp [h4])
      ·omega
     ·exact h2 (by rw [HTU.out.1]; simp [hm])) HVC.out (HBK.out.below HX8.out) (OwnT.below HX8.out HYT.out) (OwnT.below HX8.out HXt.out)
     (List.nodup_iff_count.2 fun j => by
      have h := List.nodup_iff_count.1 hn j
      simp only [List.count_cons, List.count_append, List.count_nil] at h ⊢
      omega) (Nat.le_trans hbase (Nat.le_trans HZt.out HX8.out.size))
    rwa [HXK.out.1] at h)
   go_wp2_with fail
   refine HCALL.out.mono ?_
   intro e w9 hq
   obtain ⟨e', rfl, hq⟩ := hq
   have HQ := Lib.hid (show PutQ base gk 51 xk zk b2 bx (put u tx l) w8 (.returned (.int .i64 (e' : Int))) w9 from ⟨e', rfl, hq⟩)
   clear hq
   go_wp2_with fail
   refine ⟨fun w' => w' = w9, rfl, ?_⟩
   repeat (first | go_big_quiet_skip | go_big_quiet_step (fail))
   refine wpQuiet_nil ?_
   intro wq hwq
   rw [show wq = w9 from hwq]
   clear hwq wq
   go_wp2_with fail
   go_ret
   exact put_end (y := y) (ks := ks2) (kl := kl2) (nks := nks) (HBt.out.below HX8.out) (HYt.out.below HX8.out) HTU.out.1 HXK.out.2 (fun {S} {W'} ho h1 h2 => HTU.out.2 (S := fun j => S j) ((Only.of_below (S := S) HX8.out).then2 ho) h1 h2) HUP.out HNt.out (fun j hj => Nat.lt_of_lt_of_le (HTt.out j hj) HX8.out.size) (Nat.le_trans HZt.out HX8.out.size) (HOt.out.thenB HX8.out) HVK.out HQ.out HPT.out
theorem put_all : ∀ l : N, PutC l
 | [] => put_nil
 | a :: l => put_cons a l (put_all l)
end Go.Proofs.YtfiadgdinhmgbaaDoor
