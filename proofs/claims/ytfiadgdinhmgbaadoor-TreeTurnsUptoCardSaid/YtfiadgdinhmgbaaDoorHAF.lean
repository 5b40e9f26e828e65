/- (of general use) Arms: one cell, a row of cells, stored into a block; a look-up at a step of a region that draws; a literal of two in a list of operations. (Several texts in one.) -/
import Derived.Test.YtfiadgdinhmgbaaDoorHAE
import Derived.Test.YtfiadgdinhmgbaaDoorHAB
import Derived.Test.YtfiadgdinhmgbaaDoorShelf
import Derived.Test.YtfiadgdinhmgbaaDoorHAD
import Derived.Test.YtfiadgdinhmgbaaDoorHAC
/-! code.Maker: numbers and texts as bytes. -/
namespace Go.Proofs.YtfiadgdinhmgbaaDoor
open Go.RowKit Pl Go.Agg
theorem or128 (k : Nat) : bits .or .u8 ((k : Int) % 256) 128 = ((UInt8.ofNat (k % 128 + 128)).toNat : Int) := by
 have h : ∀ m : Nat, m < 256 → bits .or .u8 (m : Int) 128 = ((UInt8.ofNat (m % 128 + 128)).toNat : Int) := by decide +kernel
 have := h (k % 256) (by omega)
 rw [show k % 256 % 128 = k % 128 by omega] at this
 rw [← this]
 congr 1
set_option maxRecDepth 100000 in
set_option maxHeartbeats 1000000 in
theorem number_any (g n : Nat) (v0 : Value) (b : List UInt8) (w : World) (hn : n ≤ 1099511627776) (hb : b.length ≤ 16777216) (hm : MkV g w v0 b) :
  Calls Tryd.prog 108 #[.pointer (some ⟨g, 0, none⟩), .int .u64 (n : Int)] w fun e w' => (∃ r, e = .returned r) ∧ ∃ v', MkV g w' v' (b ++ encN n) ∧ MkStep g w w' v0 v' := by
 have HM0 := Lib.hid hm
 clear hm
 go_enter Tryd.func108, Tryd.ntmps108
 go_wp2_with fail
 go_loopw [1] (fun x wr => ∃ k : Nat, x = .int .u64 (k : Int) ∧ k ≤ 1099511627776 ∧ ∃ bs v, MkV g wr v bs ∧ bs ++ encN k = b ++ encN n ∧ MkStep g w wr v0 v) (fun x _ => (intOf x).toNat)
 case atStart => exact ⟨n, rfl, hn, b, v0, HM0.out, rfl, MkStep.refl _ _ _⟩
 case round =>
  obtain ⟨w1, rfl⟩ : ∃ w1 : World, w1 = wr := ⟨_, rfl⟩
  obtain ⟨k, rfl, hk, bs, v, hm, heq, hw⟩ := hrel
  have hbs : bs.length ≤ 33554432 := by
   have h1 := congrArg List.length heq
   have h2 := encN_len hn
   simp only [List.length_append] at h1
   omega
  have h63 : bs.length + 1 ≤ 1099511627776 / 8 := by omega
  have hbase : g + 1 ≤ w1.heap.size := hm.blk.lt
  have HM := Lib.hid hm
  have HO := Lib.hid hm.own
  have HEQ := Lib.hid heq
  have HW := Lib.hid hw
  clear hm heq hw
  by_cases hlt : 128 ≤ k
  ·have hI : (128 : Int) ≤ (k : Int) := by omega
   have hor := or128 k
   obtain ⟨c, hc⟩ : ∃ c, UInt8.ofNat (k % 128 + 128) = c := ⟨_, rfl⟩
   rw [hc] at hor
   have HE : Hid (bs ++ [c] ++ encN (k / 128) = b ++ encN n) := Lib.hid (by rw [← hc, ← HEQ.out, encN_ge hlt, List.append_assoc]; rfl)
   clear hlt hc
   go_wp2_with (first | (with_reducible refine wpList_loadL HM.out.load rfl _ rfl rfl ?_) | (refine Agg.wpList_pushO (E := EB) (base := g + 1) rfl rfl 16 rfl _ rfl _ rfl (c) rfl (fun _ => rfl) (by simp) HO.out h63 (by decide) hbase ?_; intro u1 v1 w2 ho1 hp1 hgr1; obtain ⟨w3, hrun, hmk, hst⟩ := MkV.put HM.out ho1 hp1 hgr1; have HMK := Lib.hid hmk; have HST := Lib.hid hst; clear ho1 hp1 hgr1 hmk hst) | (refine wpList_store rfl rfl 23 _ _ rfl (.pointer (some ⟨g, 0, none⟩)) _ rfl rfl hrun ?_))
   go_roundw
   case rel => exact ⟨k / 128, by go_num, by omega, _, _, HMK.out, HE.out, HW.out.trans HST.out⟩
   case measure => simp [intOf]; omega
  ·obtain ⟨c, rfl⟩ : ∃ c : UInt8, k = c.toNat := ⟨UInt8.ofNat k, by simp; omega⟩
   have hI : ¬ (128 : Int) ≤ (c.toNat : Int) := by omega
   have HE : Hid (bs ++ [c] = b ++ encN n) := Lib.hid (by rw [← HEQ.out, encN_lt (by omega), UInt8.ofNat_toNat])
   clear hlt
   go_wp2_with (first | (with_reducible refine wpList_loadL HM.out.load rfl _ rfl rfl ?_) | (refine Agg.wpList_pushO (E := EB) (base := g + 1) rfl rfl 27 rfl _ rfl _ rfl (c) rfl (fun _ => rfl) (by simp) HO.out h63 (by decide) hbase ?_; intro u1 v1 w2 ho1 hp1 hgr1; obtain ⟨w3, hrun, hmk, hst⟩ := MkV.put HM.out ho1 hp1 hgr1; have HMK := Lib.hid hmk; have HST := Lib.hid hst; clear ho1 hp1 hgr1 hmk hst) | (refine wpList_store rfl rfl 23 _ _ rfl (.pointer (some ⟨g, 0, none⟩)) _ rfl rfl hrun ?_))
   refine bodyPost_end (results_none rfl _ _ _) rfl ?_
   exact ⟨⟨_, rfl⟩, _, by rw [← HE.out]; exact HMK.out, HW.out.trans HST.out⟩
set_option maxRecDepth 100000 in
set_option maxHeartbeats 1000000 in
theorem allow_any (g n m : Nat) (v : Value) (b : List UInt8) (w : World) (hn : n ≤ m) (hm : m ≤ 1099511627776) (hv : MkV g w v b) :
  Calls Tryd.prog 107 #[.pointer (some ⟨g, 0, none⟩), .int .i64 (n : Int), .int .i64 (m : Int)] w fun e w' => e = .returned (.bool true) ∧ w' = w := by
 have HB := Lib.hid hv.bad
 clear hv
 have hI : ¬ (m : Int) < (n : Int) := by omega
 go_enter Tryd.func107, Tryd.ntmps107
 go_wp2_with (first | (with_reducible refine wpList_loadL HB.out rfl _ rfl rfl ?_))
 go_ret
 exact ⟨rfl, rfl⟩
set_option maxRecDepth 100000 in
set_option maxHeartbeats 1000000 in
theorem num_any (g : Nat) (v0 x : Value) (ns : List Nat) (b : List UInt8) (w : World) (hall : ∀ n ∈ ns, n ≤ 1099511627776) (hl : ns.length ≤ 16) (hb : b.length ≤ 8388608) (hx : Off EI g w v0 x ns) (hm : MkV g w v0 b) :
  Calls Tryd.prog 99 #[.pointer (some ⟨g, 0, none⟩), x] w fun e w' => e = .returned (.pointer (some ⟨g, 0, none⟩)) ∧ ∃ v', MkV g w' v' (b ++ ns.flatMap encN) ∧ MkStep g w w' v0 v' := by
 have HM0 := Lib.hid hm
 have hlx := fun W => ints_len hx.slice W
 have HX := Lib.hid hx
 clear hm hx
 go_enter Tryd.func99, Tryd.ntmps99
 go_wp2_with fail
 go_loopw [11] (fun i wr => ∃ k : Nat, k ≤ ns.length ∧ i = .int .i64 (k : Int) ∧ ∃ v, MkV g wr v (b ++ (ns.take k).flatMap encN) ∧ MkStep g w wr v0 v) (fun i _ => ns.length - (intOf i).toNat)
 case atStart => exact ⟨0, by omega, rfl, v0, by simpa using HM0.out, MkStep.refl _ _ _⟩
 case round =>
  obtain ⟨w1, rfl⟩ : ∃ w1 : World, w1 = wr := ⟨_, rfl⟩
  obtain ⟨k, hk, rfl, v, hm, hst⟩ := hrel
  have HM := Lib.hid hm
  have HS := Lib.hid hst
  clear hm hst
  by_cases hlt : k < ns.length
  ·obtain ⟨y, hyk⟩ : ∃ y, ns[k]? = some y := ⟨_, List.getElem?_eq_getElem hlt⟩
   have hy : y ≤ 1099511627776 := hall y (List.mem_of_getElem? hyk)
   obtain ⟨p, hadr, hld⟩ := int_at (HX.out.step HS.out).slice k y hyk
   have HL := Lib.hid hld
   have hbl : (b ++ (ns.take k).flatMap encN).length ≤ 16777216 := by
    have : ∀ l : List Nat, (∀ n ∈ l, n ≤ 1099511627776) → (l.flatMap encN).length ≤ l.length * 6 := by
     intro l
     induction l with
     | nil => intro _; simp
     | cons a l ih =>
      intro h
      have h1 := encN_len (h a (by simp))
      have h2 := ih fun n hn => h n (by simp [hn])
      simp only [List.flatMap_cons, List.length_append, List.length_cons]
      omega
    have h1 := this (ns.take k) fun n hn => hall n (List.mem_of_mem_take hn)
    simp only [List.length_append]
    have : (ns.take k).length ≤ 16 := by simp; omega
    omega
   have hfl : b ++ (ns.take k).flatMap encN ++ encN y = b ++ (ns.take (k + 1)).flatMap encN := by rw [List.take_add_one, hyk]; simp
   have HF := Lib.hid hfl
   have hbn : ((y : Int) % 18446744073709551616) = (y : Int) := by omega
   clear hld hyk hfl
   go_wp2_with (first | (with_reducible refine wpList_loadL HL.out rfl _ rfl rfl ?_))
   refine (allow_any g y 1099511627776 v _ w1 hy (by omega) HM.out).mono ?_
   rintro e w2 ⟨rfl, rfl⟩
   go_wp2_with fail
   refine (number_any g y v _ _ hy hbl HM.out).mono ?_
   rintro e w3 ⟨⟨r, rfl⟩, v3, hm3, hs3⟩
   rw [HF.out] at hm3
   have HM3 := Lib.hid hm3
   have HS3 := Lib.hid hs3
   clear hm3 hs3
   go_wp2_with fail
   go_roundw
   case rel => exact ⟨k + 1, by omega, by go_num, v3, HM3.out, HS.out.trans HS3.out⟩
   case measure => simp [intOf]; omega
  ·obtain rfl : k = ns.length := by omega
   have HMT := Lib.hid (show MkV g w1 v (b ++ ns.flatMap encN) by have := HM.out; rwa [List.take_length] at this)
   go_wp2_with fail
   go_ret
   exact ⟨rfl, v, HMT.out, HS.out⟩
set_option maxRecDepth 100000 in
set_option maxHeartbeats 1000000 in
theorem raw_any (g : Nat) (v x : Value) (l b : List UInt8) (w : World) (hb : b.length ≤ 16777216) (hl : l.length ≤ 16777216) (hx : SliceOf EB w x l) (hm : MkV g w v b) :
  Calls Tryd.prog 109 #[.pointer (some ⟨g, 0, none⟩), x] w fun e w' => e = .returned (.pointer (some ⟨g, 0, none⟩)) ∧ ∃ v', MkV g w' v' (b ++ l) ∧ MkStep g w w' v v' := by
 have HM := Lib.hid hm
 have HX := Lib.hid hx
 have HO := Lib.hid hm.own
 have h63 : b.length + l.length ≤ 1099511627776 / 8 := by omega
 have hbase : g + 1 ≤ w.heap.size := hm.blk.lt
 clear hm hx
 go_enter Tryd.func109, Tryd.ntmps109
 go_wp2_with (first | (with_reducible refine wpList_loadL HM.out.load rfl _ rfl rfl ?_) | (refine Agg.wpList_appendO (E := EB) (base := g + 1) rfl _ _ rfl x rfl rfl l HO.out HX.out h63 (by decide) hbase ?_; intro v1 w2 ho1 hp1 hgr1; obtain ⟨w3, hrun, hmk, hst⟩ := MkV.put HM.out ho1 hp1 hgr1; have HMK := Lib.hid hmk; have HST := Lib.hid hst; clear ho1 hp1 hgr1 hmk hst) | (refine wpList_store rfl rfl 23 _ _ rfl (.pointer (some ⟨g, 0, none⟩)) _ rfl rfl hrun ?_))
 go_ret
 exact ⟨rfl, v1, HMK.out, HST.out⟩
end Go.Proofs.YtfiadgdinhmgbaaDoor
/-! bytes.Clone; code.Maker: Text, Done. -/
namespace Go.Proofs.YtfiadgdinhmgbaaDoor
open Go.RowKit Pl Go.Agg
theorem nil_is (n c : Nat) (W : World) : (binOp .eql 23 (.slice none n c) (.slice none 0 0)).run Tryd.prog W = .ok (.bool true) W := by kernel_rfl
theorem nil_not (a : Addr) (n c : Nat) (W : World) : (binOp .eql 23 (.slice (some a) n c) (.slice none 0 0)).run Tryd.prog W = .ok (.bool false) W := by kernel_rfl
set_option maxRecDepth 100000 in
set_option maxHeartbeats 1000000 in
theorem bclone_any (x : Value) (l : List UInt8) (w : World) (hl : l.length ≤ 33554432) (hx : SliceOf EB w x l) :
  Calls Tryd.prog 66 #[x] w fun e w' => ∃ v', e = .returned v' ∧ Own EB w.heap.size w' v' l ∧ Below w.heap.size w w' := by
 have HX := Lib.hid hx
 have h63 : ([] : List UInt8).length + l.length ≤ 1099511627776 / 8 := by simp; omega
 obtain ⟨q, c, rfl⟩ := hx.form
 cases q with
 | none =>
  have hl0 : l = [] := by
   rcases hx with ⟨_, _, _, h⟩ | ⟨a, cap, e, _⟩
   ·exact h
   ·injection e with e; cases e
  subst hl0
  have hnl := nil_is 0 c
  clear hx
  go_enter Tryd.func66, Tryd.ntmps66
  go_wp2_with fail
  go_ret
  exact ⟨_, rfl, Own.nil _ _ _, Below.refl _ _⟩
 | some a =>
  have hnl := nil_not a l.length c
  clear hx
  go_enter Tryd.func66, Tryd.ntmps66
  go_wp2_with (first | (refine wpList_slice0 (base := w.heap.size) EB rfl rfl (Nat.le_refl _) ?_; intro v1 w1 ho1 hx1 _; have HO1 := Lib.hid ho1; have HX1 := Lib.hid (SliceOf.below HX.out hx1); have hsz := hx1.size; clear ho1) | (refine Agg.wpList_appendO (E := EB) (base := w.heap.size) rfl _ _ rfl (.slice (some a) l.length c) rfl rfl l HO1.out HX1.out h63 (by decide) hsz ?_; intro v2 w2 ho2 hp2 _; have HO2 := Lib.hid ho2; have HP2 := Lib.hid (hx1.trans (hp2.below w.heap.size (Nat.le_refl _) hsz)); clear ho2 hp2))
  go_ret
  exact ⟨_, rfl, by simpa using HO2.out, HP2.out⟩
set_option maxRecDepth 100000 in
set_option maxHeartbeats 1000000 in
theorem done_any (g : Nat) (v : Value) (b : List UInt8) (w : World) (hb : b.length ≤ 33554432) (hm : MkV g w v b) :
  Calls Tryd.prog 84 #[.pointer (some ⟨g, 0, none⟩)] w fun e w' => ∃ v', e = .returned (.tuple #[v', .int .i64 0]) ∧ Own EB w.heap.size w' v' b ∧ Below w.heap.size w w' := by
 have HM := Lib.hid hm
 clear hm
 go_enter Tryd.func84, Tryd.ntmps84
 go_wp2_with (first | (with_reducible refine wpList_loadL HM.out.load rfl _ rfl rfl ?_) | (with_reducible refine wpList_loadL HM.out.bad rfl _ rfl rfl ?_))
 refine (bclone_any v b w hb HM.out.own.slice).mono ?_
 rintro e w1 ⟨v1, rfl, ho, hx⟩
 have HO := Lib.hid ho
 clear ho
 go_wp2_with fail
 go_ret2
 exact ⟨_, rfl, HO.out, hx⟩
set_option maxRecDepth 100000 in
set_option maxHeartbeats 1000000 in
theorem text_any (g : Nat) (v x : Value) (s : SV) (l b : List UInt8) (w : World) (hb : b.length ≤ 4194304) (hl : l.length ≤ 1048576) (hx : Off EBB g w v x [s]) (hs : Off EB g w v s.1 l) (hm : MkV g w v b) :
  Calls Tryd.prog 100 #[.pointer (some ⟨g, 0, none⟩), x] w fun e w' => e = .returned (.pointer (some ⟨g, 0, none⟩)) ∧ ∃ v', MkV g w' v' (b ++ (encN l.length ++ l)) ∧ MkStep g w w' v v' := by
 have HM := Lib.hid hm
 have HS := Lib.hid hs
 have hlx := fun W => bb_len hx.slice W
 have hls := fun W => bytes_len hs.slice W
 obtain ⟨q, hadr0, hld⟩ := bb_at hx.slice 0 s rfl
 have hadr : ∀ W, (Instr.indexAt 135 x (.int .i64 0)).run Tryd.prog W = .ok (.pointer (some q)) W := hadr0
 clear hadr0
 have HL := Lib.hid hld
 have hlt := fun k hk => hm.lt k hk
 have HLT := Lib.hid hlt
 have hg := hm.blk.lt
 clear hm hs hx hld hlt
 go_enter Tryd.func100, Tryd.ntmps100
 go_wp2_with fail
 go_loopw [9] (fun i wr => (i = .int .i64 0 ∧ wr = w) ∨ (i = .int .i64 1 ∧ ∃ v', MkV g wr v' (b ++ (encN l.length ++ l)) ∧ MkStep g w wr v v')) (fun i _ => 1 - (intOf i).toNat)
 case atStart => exact .inl ⟨rfl, rfl⟩
 case round =>
  obtain ⟨w1, rfl⟩ : ∃ w1 : World, w1 = wr := ⟨_, rfl⟩
  rcases hrel with ⟨rfl, rfl⟩ | ⟨rfl, v', hm', hs'⟩
  ·go_wp2_with (first | (with_reducible refine wpList_loadL HL.out rfl _ rfl rfl ?_))
   refine (allow_any g l.length 1048576 v b _ hl (by omega) HM.out).mono ?_
   rintro e w2 ⟨rfl, rfl⟩
   go_wp2_with (first | (refine wpList_slice1 (E := EI) (base := w2.heap.size) rfl _ rfl l.length rfl (Nat.le_refl _) ?_; intro xs w3 hxs hx3; have HXS := Lib.hid hxs; have HX3 := Lib.hid hx3; clear hxs hx3))
   have hx3 := HX3.out
   have hsz := hx3.size
   have hoff : Off EI g w3 v xs [l.length] := Off.behind (w0 := w2) HXS.out.slice (fun k hk => (HXS.out.block k hk).1) hg HLT.out
   refine (num_any g v xs [l.length] b w3 (by simp; omega) (by simp) (by omega) hoff (HM.out.below hx3)).mono ?_
   rintro e w4 ⟨rfl, v4, hm4, hs4⟩
   have hs24 : MkStep g w2 w4 v v4 := (MkStep.of_below hx3).trans hs4
   have hoff4 := HS.out.step hs24
   have he6 := encN_len (n := l.length) (by omega)
   have HM4 := Lib.hid hm4
   have HS4 := Lib.hid hs24
   clear hs4 hs24 hoff
   have hfl : b ++ [l.length].flatMap encN = b ++ encN l.length := by simp
   go_wp2_with fail
   refine (raw_any g v4 s.1 l _ w4 (by simp only [hfl, List.length_append]; omega) (by omega) hoff4.slice HM4.out).mono ?_
   rintro e w5 ⟨rfl, v5, hm5, hs5⟩
   have HM5 := Lib.hid (show MkV g w5 v5 (b ++ (encN l.length ++ l)) by rw [hfl, List.append_assoc] at hm5; exact hm5)
   have HS5 := Lib.hid (HS4.out.trans hs5)
   clear hm5 hs5 hm4 hoff4 hfl
   go_wp2_with fail
   go_roundw
   case rel => exact .inr ⟨by go_num, v5, HM5.out, HS5.out⟩
   case measure => simp [intOf]
  ·have HM' := Lib.hid hm'
   have HS' := Lib.hid hs'
   clear hm' hs'
   go_wp2_with fail
   go_ret
   exact ⟨rfl, v', HM'.out, HS'.out⟩
end Go.Proofs.YtfiadgdinhmgbaaDoor
/-! slices.Clone at bytes. -/
namespace Go.Proofs.YtfiadgdinhmgbaaDoor
open Go.RowKit Pl Go.Agg
end Go.Proofs.YtfiadgdinhmgbaaDoor
/-! (of general use) wire.Frame. -/
namespace Go.Proofs.YtfiadgdinhmgbaaDoor
open Go.RowKit Pl Go.Agg
structure RowsIn (w : World) (vs : List SV) (ls : List (List UInt8)) : Prop where
 len : vs.length = ls.length
 row : ∀ (k : Nat) (s : SV) (l : List UInt8), vs[k]? = some s → ls[k]? = some l → BytesAt w s.1 l
theorem RowsIn.below {w w' : World} {vs : List SV} {ls : List (List UInt8)} (h : RowsIn w vs ls) (hb : Below w.heap.size w w') : RowsIn w' vs ls := ⟨h.len, fun k s l h1 h2 => (h.row k s l h1 h2).below hb⟩
theorem framed_take {ls : List (List UInt8)} {k : Nat} {l : List UInt8} (h : ls[k]? = some l) : framed (ls.take k) ++ (encN l.length ++ l) = framed (ls.take (k + 1)) := by
 rw [List.take_add_one, h]; simp [framed]
theorem framed_le (ls : List (List UInt8)) (k : Nat) : (framed (ls.take k)).length ≤ (framed ls).length := by
 have : framed ls = framed (ls.take k) ++ framed (ls.drop k) := by
  unfold framed; rw [← List.flatMap_append, List.take_append_drop]
 rw [this, List.length_append]; omega
end Go.Proofs.YtfiadgdinhmgbaaDoor
/-! (of general use) wire.begin. -/
namespace Go.Proofs.YtfiadgdinhmgbaaDoor
open Go.RowKit Pl Go.Agg
theorem sliceOf_taken {α : Type} {E : Elem Tryd.prog α} {w : World} {p : Option Addr} {c : Nat} {l : List α} (h : SliceOf E w (.slice p l.length c) l) (n : Nat) (hn : n ≤ l.length) : SliceOf E w (.slice p n c) (l.take n) := by
 rcases h with ⟨q, d, e, rfl⟩ | ⟨q, d, e, hq, hc⟩
 ·obtain rfl : n = 0 := by simpa using hn
  exact SliceOf.nil _ _ _
 ·simp only [Value.slice.injEq] at e
  obtain ⟨rfl, _, rfl⟩ := e
  refine .inr ⟨q, c, by rw [List.length_take, Nat.min_eq_left hn], hq, fun j u hj => hc j u ?_⟩
  have : E.flat l = E.flat (l.take n) ++ E.flat (l.drop n) := by rw [← Elem.flat_append, List.take_append_drop]
  rw [this, List.getElem?_append_left (List.getElem?_eq_some_iff.1 hj).1]
  exact hj
theorem and127 (b : UInt8) : bits .and .u8 (b.toNat : Int) 127 = ((b.toNat % 128 : Nat) : Int) := by
 have h : ∀ m : Nat, m < 256 → bits .and .u8 (m : Int) 127 = ((m % 128 : Nat) : Int) := by decide +kernel
 exact h _ b.toNat_lt
theorem and128 (b : UInt8) : bits .and .u8 (b.toNat : Int) 128 = ((b.toNat / 128 * 128 : Nat) : Int) := by
 have h : ∀ m : Nat, m < 256 → bits .and .u8 (m : Int) 128 = ((m / 128 * 128 : Nat) : Int) := by decide +kernel
 exact h _ b.toNat_lt
theorem i64_or_nat (a b : Nat) (ha : a < 9223372036854775808) (hb : b < 9223372036854775808) : bits .or .i64 (a : Int) (b : Int) = ((a ||| b : Nat) : Int) := by
 have hx : a ||| b < 2 ^ 63 := Nat.or_lt_two_pow (by omega) (by omega)
 show IntKind.i64.wrap ((BitVec.ofInt 64 (a : Int) ||| BitVec.ofInt 64 (b : Int)).toNat : Int) = _
 rw [BitVec.toNat_or, ofInt_u64 a (by omega), ofInt_u64 b (by omega), IntKind.wrap_i64]
 omega
theorem or_add (N x k : Nat) (hx : x < 128) (hN : N < 2 ^ (7 * k)) (hk : k < 4) : bits .or .i64 (N : Int) ((x * 2 ^ (7 * k) : Nat) : Int) = ((N + x * 2 ^ (7 * k) : Nat) : Int) := by
 have h5 : 2 ^ (7 * k) ≤ 2 ^ 21 := Nat.pow_le_pow_right (by omega) (by omega)
 have hp : x * 2 ^ (7 * k) ≤ 128 * 2 ^ 21 := Nat.mul_le_mul (by omega) h5
 rw [i64_or_nat _ _ (by omega) (by omega), Nat.or_comm, Nat.mul_comm, ← Nat.two_pow_add_eq_or_of_lt hN, Nat.add_comm]
end Go.Proofs.YtfiadgdinhmgbaaDoor
/-! (of general use) wire.Frames. -/
namespace Go.Agg
open Go.RowKit
variable {P : Program} {α : Type} {E : Elem P α} {base : Nat} {w w' : World} {v : Value} {l : List α}
theorem Own.keepT (h : Own E base w v l) (hk : ∀ (g : Nat) (cur : Array Value) (fr : Nat × Nat), w.heap[g]? = some (Obj.cells cur E.ty fr) → w'.heap[g]? = some (Obj.cells cur E.ty fr)) : Own E base w' v l := by
 obtain ⟨hfl, h | ⟨g, cap, cur, hv, hb, hc, hr⟩⟩ := h
 ·exact ⟨hfl, .inl h⟩
 ·exact ⟨hfl, .inr ⟨g, cap, cur, hv, hb, hk g cur _ hc, hr⟩⟩
theorem Own.cap (h : Own E base w v l) : ∀ p n c, v = .slice p n c → n ≤ c := by
 obtain ⟨_, ⟨rfl, _⟩ | ⟨g, cap, cur, rfl, _, _, hle, _⟩⟩ := h
 ·intro p n c e; injection e with _ h1 h2; omega
 ·intro p n c e; injection e with _ h1 h2; omega
end Go.Agg
namespace Go.Proofs.YtfiadgdinhmgbaaDoor
open Go.RowKit Pl Go.Agg
structure RowsOwn (base : Nat) (w : World) (vs : List SV) (ls : List (List UInt8)) : Prop where
 len : vs.length = ls.length
 row : ∀ (k : Nat) (s : SV) (l : List UInt8), vs[k]? = some s → ls[k]? = some l → Own EB base w s.1 l
section
variable {base : Nat} {w w' : World} {vs : List SV} {ls : List (List UInt8)} {v : Value} {r : List UInt8}
theorem RowsOwn.below (h : RowsOwn base w vs ls) (hb : Below w.heap.size w w') : RowsOwn base w' vs ls := ⟨h.len, fun k s l h1 h2 => (h.row k s l h1 h2).below hb⟩
theorem RowsOwn.pushed {u : Value} (h : RowsOwn base w vs ls) (hp : Pushed EBB base w w' u) : RowsOwn base w' vs ls := ⟨h.len, fun k s l h1 h2 => (h.row k s l h1 h2).keepT fun g cur fr hg => hp.blk g _ _ _ (by decide) hg⟩
theorem RowsOwn.rows (h : RowsOwn base w vs ls) : RowsIn w vs ls := ⟨h.len, fun k s l h1 h2 => (h.row k s l h1 h2).slice⟩
theorem RowsOwn.push {s : SV} {l : List UInt8} (h : RowsOwn base w vs ls) (hs : Own EB base w s.1 l) : RowsOwn base w (vs ++ [s]) (ls ++ [l]) := by
 refine ⟨by simp [h.len], fun k t m h1 h2 => ?_⟩
 have hl := h.len
 by_cases hk : k < vs.length
 ·rw [List.getElem?_append_left hk] at h1
  rw [List.getElem?_append_left (by omega)] at h2
  exact h.row k t m h1 h2
 ·rw [List.getElem?_append_right (by omega)] at h1 h2
  by_cases hk0 : k - vs.length = 0
  ·rw [hk0] at h1
   rw [show k - ls.length = 0 by omega] at h2
   obtain rfl : s = t := by simpa using h1
   obtain rfl : l = m := by simpa using h2
   exact hs
  ·rw [List.getElem?_eq_none (by simp; omega)] at h1; cases h1
def Rest (base : Nat) (w : World) (v : Value) (r : List UInt8) : Prop :=
 (v = .slice none 0 0 ∧ r = []) ∨ ∃ g off cap cs, v = .slice (some ⟨g, off, none⟩) r.length cap ∧ r.length ≤ cap ∧ base ≤ g ∧ Blk w g 5 cs ∧ off + cap ≤ cs.size ∧ ∀ j u, (EB.flat r)[j]? = some u → cs[off + j]? = some u
theorem Rest.of_own (h : Own EB base w v r) : Rest base w v r := by
 obtain ⟨hfl, ⟨rfl, h0⟩ | ⟨g, cap, cur, rfl, hgb, hcur, hle, _, hsz, htk⟩⟩ := h
 ·exact .inl ⟨rfl, List.length_eq_zero_iff.1 h0⟩
 ·refine .inr ⟨g, 0, cap, cur, rfl, hle, hgb, hcur, by rw [hsz, show EB.n = 1 from rfl]; omega, fun j u hj => ?_⟩
  rw [← htk, List.getElem?_take] at hj
  split at hj
  ·simpa using hj
  ·cases hj
theorem Rest.slice (h : Rest base w v r) : BytesAt w v r := by
 rcases h with ⟨rfl, rfl⟩ | ⟨g, off, cap, cs, rfl, _, _, hb, _, hc⟩
 ·exact SliceOf.nil _ _ _
 ·exact .inr ⟨_, cap, rfl, hb.lt, fun j u hj => by rw [add_plain, hb.cell]; exact hc j u hj⟩
theorem Rest.room (h : Rest base w v r) : RoomN EB w v r := by
 rcases h with ⟨rfl, rfl⟩ | ⟨g, off, cap, cs, rfl, hle, _, hb, hsz, hc⟩
 ·exact .inl ⟨rfl, rfl⟩
 ·refine .inr ⟨g, off, cap, rfl, hle, hb.lt, fun j hj => ?_, fun j _ => frozen_of_row _ _ _ _ _ hb, fun j u hj => by rw [hb.cell]; exact hc j u hj⟩
  rw [show EB.n = 1 from rfl, Nat.mul_one] at hj
  rw [hb.cell, Array.getElem?_eq_getElem (by omega)]; rfl
theorem Rest.block (h : Rest base w v r) : ∀ k, v.ownBlock = some k → base ≤ k ∧ k < w.heap.size := by
 rcases h with ⟨rfl, rfl⟩ | ⟨g, off, cap, cs, rfl, _, hg, hb, _⟩
 ·intro k hk; simp [Value.ownBlock] at hk
 ·intro k hk
  obtain rfl : g = k := by simpa [Value.ownBlock] using hk
  exact ⟨hg, hb.lt⟩
theorem Rest.cap (h : Rest base w v r) : ∀ p n c, v = .slice p n c → n ≤ c := by
 rcases h with ⟨rfl, rfl⟩ | ⟨g, off, cap, cs, rfl, hle, _⟩
 ·intro p n c e; injection e with _ h1 h2; omega
 ·intro p n c e; injection e with _ h1 h2; omega
theorem Rest.below (h : Rest base w v r) (hb : Below w.heap.size w w') : Rest base w' v r := by
 rcases h with h | ⟨g, off, cap, cs, rfl, hle, hg, hk, hc⟩
 ·exact .inl h
 ·exact .inr ⟨g, off, cap, cs, rfl, hle, hg, hk.below hb, hc⟩
theorem Rest.pushed {u : Value} {B : Nat} (h : Rest base w v r) (hp : Pushed EBB B w w' u) : Rest base w' v r := by
 rcases h with h | ⟨g, off, cap, cs, rfl, hle, hg, hk, hc⟩
 ·exact .inl h
 ·exact .inr ⟨g, off, cap, cs, rfl, hle, hg, hp.blk g _ _ _ (by decide) hk, hc⟩
theorem Rest.drop {g off cap : Nat} (h : Rest base w (.slice (some ⟨g, off, none⟩) r.length cap) r) (k : Nat) (hk : k ≤ r.length) : Rest base w (.slice (some ⟨g, off + k, none⟩) (r.length - k) (cap - k)) (r.drop k) := by
 rcases h with ⟨h, _⟩ | ⟨g', off', cap', cs, h, hle, hg, hb, hsz, hc⟩
 ·cases h
 ·simp only [Value.slice.injEq, Option.some.injEq, Addr.mk.injEq] at h
  obtain ⟨⟨rfl, rfl, _⟩, _, rfl⟩ := h
  refine .inr ⟨g, off + k, cap - k, cs, by rw [List.length_drop], by simp; omega, hg, hb, by omega, fun j u hj => ?_⟩
  have e : EB.flat r = EB.flat (r.take k) ++ EB.flat (r.drop k) := by rw [← Elem.flat_append, List.take_append_drop]
  have hlen : (EB.flat (r.take k)).length = k := by rw [Elem.flat_length, show EB.n = 1 from rfl, List.length_take]; omega
  have := hc (k + j) u (by rw [e, List.getElem?_append_right (by omega), hlen, show k + j - k = j by omega]; exact hj)
  rwa [← Nat.add_assoc] at this
theorem Rest.zero {g off cap : Nat} (h : Rest base w (.slice (some ⟨g, off, none⟩) r.length cap) r) : Rest base w (.slice (some ⟨g, off, none⟩) 0 0) [] := by
 rcases h with ⟨h, _⟩ | ⟨g', off', cap', cs, h, hle, hg, hb, hsz, hc⟩
 ·cases h
 ·simp only [Value.slice.injEq, Option.some.injEq, Addr.mk.injEq] at h
  obtain ⟨⟨rfl, rfl, _⟩, _, rfl⟩ := h
  exact .inr ⟨g, off, 0, cs, rfl, Nat.le_refl _, hg, hb, by omega, fun j u hj => by simp [Elem.flat] at hj⟩
theorem Rest.empty {g off cap : Nat} (h : Rest base w (.slice (some ⟨g, off, none⟩) r.length cap) r) {m : List UInt8} (hm : m = []) : Rest base w (.slice (some ⟨g, off, none⟩) 0 0) m := by
 rw [hm]; exact h.zero
end
def FramesOut (base : Nat) (w : World) (e : Ending) (b : List UInt8) : Prop :=
 (frames b = none ∧ e = .returned (.tuple #[.slice none 0 0, .slice none 0 0, .int .i64 4])) ∨
 ∃ lv rv vs ls r, frames b = some (ls, r) ∧ e = .returned (.tuple #[lv, rv, .int .i64 0]) ∧ Own EBB base w lv vs ∧ RowsOwn base w vs ls ∧ Rest base w rv r
def FramesOutS (base : Nat) (w : World) (e : Ending) (b : List UInt8) : Prop :=
 (frames b = none ∧ e = .returned (.tuple #[.slice none 0 0, .slice none 0 0, .int .i64 4])) ∨
 ∃ lv rv vs ls r, frames b = some (ls, r) ∧ e = .returned (.tuple #[lv, rv, .int .i64 0]) ∧ Own EBB base w lv vs ∧ RowsOwn base w vs ls ∧ Rest base w rv r ∧ Dist vs ∧ ∃ m, (∀ k, rv.ownBlock = some k → k < m) ∧ ∀ b, SS vs b → m ≤ b
theorem FramesOutS.out {base : Nat} {w : World} {e : Ending} {b : List UInt8} (h : FramesOutS base w e b) : FramesOut base w e b := by
 rcases h with h | ⟨lv, rv, vs, ls, r, h1, h2, h3, h4, h5, _⟩
 ·exact .inl h
 ·exact .inr ⟨lv, rv, vs, ls, r, h1, h2, h3, h4, h5⟩
theorem dist_push {vs : List SV} {s : SV} {B : Nat} (h : Dist vs) (hv : ∀ b, SS vs b → b < B) (hs : ∀ b, s.1.ownBlock = some b → B ≤ b) : Dist (vs ++ [s]) := by
 intro i j u v hi hj hij b hu hv'
 have one : ∀ (i : Nat) (u : SV), (vs ++ [s])[i]? = some u → (i < vs.length ∧ vs[i]? = some u) ∨ (i = vs.length ∧ u = s) := fun i u h => by
  by_cases hi : i < vs.length
  ·rw [List.getElem?_append_left hi] at h; exact .inl ⟨hi, h⟩
  ·rw [List.getElem?_append_right (by omega)] at h
   by_cases h0 : i - vs.length = 0
   ·rw [h0] at h
    obtain rfl : s = u := by simpa using h
    exact .inr ⟨by omega, rfl⟩
   ·rw [List.getElem?_eq_none (by simp; omega)] at h; cases h
 rcases one i u hi with ⟨h1, h2⟩ | ⟨h1, rfl⟩ <;> rcases one j v hj with ⟨h3, h4⟩ | ⟨h3, rfl⟩
 ·exact h i j u v h2 h4 hij b hu hv'
 ·have := hv b ⟨i, u, h2, hu⟩; have := hs b hv'; omega
 ·have := hv b ⟨j, v, h4, hv'⟩; have := hs b hu; omega
 ·omega
theorem ss_push {vs : List SV} {s : SV} {b : Nat} (h : SS (vs ++ [s]) b) : SS vs b ∨ s.1.ownBlock = some b := by
 obtain ⟨i, u, hi, hb⟩ := h
 by_cases hl : i < vs.length
 ·rw [List.getElem?_append_left hl] at hi; exact .inl ⟨i, u, hi, hb⟩
 ·rw [List.getElem?_append_right (by omega)] at hi
  by_cases h0 : i - vs.length = 0
  ·rw [h0] at hi
   obtain rfl : s = u := by simpa using hi
   exact .inr hb
  ·rw [List.getElem?_eq_none (by simp; omega)] at hi; cases hi
theorem RowsOwn.lt {base : Nat} {w : World} {vs : List SV} {ls : List (List UInt8)} (h : RowsOwn base w vs ls) : ∀ b, SS vs b → base ≤ b ∧ b < w.heap.size := by
 rintro b ⟨k, s, hk, hb⟩
 obtain ⟨l, hl⟩ : ∃ l, ls[k]? = some l := ⟨_, List.getElem?_eq_getElem (by rw [← h.len]; exact (List.getElem?_eq_some_iff.1 hk).1)⟩
 obtain ⟨h1, cur, hc⟩ := (h.row k s l hk hl).block b hb
 exact ⟨h1, Agg.heap_lt hc⟩
end Go.Proofs.YtfiadgdinhmgbaaDoor
/-! A load by its run; a block behind changes elsewhere. -/
namespace Go.Agg
open Go.RowKit
theorem exec_loadB {P : Program} {o : Oper} {a : Act} {w : World} {ty : TypeId} {x : Operand} {p v : Value} (ho : o.op = .load ty x) (hx : a.eval x = p) (hrun : (Instr.loadAt ty p).run P w = .ok v w) : (execOp a.eval o).run P w = .ok (.value v) w := by simp [execOp, ho, hx, hrun]
theorem Blk.onlyP {w w' : World} {S : Nat → Prop} {g : Nat} {t : TypeId} {cs : Array Value} (h : Blk w g t cs) (ho : Only S w w') (hS : ¬ S g) : Blk w' g t cs := (ho.block g h.lt hS).trans h
end Go.Agg
/-! A resolved derivation in a block. -/
namespace Go.Agg
open Go.RowKit
theorem Blk.onlyQ {w w' : World} {S : Nat → Prop} {g : Nat} {t : TypeId} {cs : Array Value} (h : Blk w g t cs) (ho : Only S w w') (hS : ¬ S g) : Blk w' g t cs := (ho.block g h.lt hS).trans h
theorem Blk.pushedB {P : Program} {α : Type} {E : Elem P α} {base g : Nat} {w w' : World} {v : Value} {t : TypeId} {cs : Array Value} (h : Blk w g t cs) (hp : Pushed E base w w' v) (hne : t ≠ E.ty) : Blk w' g t cs := hp.blk g _ _ _ hne h
theorem Own.onlyB {P : Program} {α : Type} {E : Elem P α} {base g : Nat} {w w' : World} {v : Value} {l : List α} {t : TypeId} {cs : Array Value} (h : Own E base w v l) (ho : Only (· = g) w w') (hb : Blk w g t cs) (hne : t ≠ E.ty) : Own E base w' v l := by
 refine h.keepT fun k cur fr hk => (ho.block k (heap_lt hk) ?_).trans hk
 rintro rfl
 rw [show w.heap[k]? = _ from hb] at hk
 injection hk with hk
 injection hk with _ ht
 exact hne ht
end Go.Agg
namespace Go.Proofs.YtfiadgdinhmgbaaDoor
open Go.RowKit Pl Go.Agg
def rsC (n : List UInt8) (vi vr : Value) : Array Value := #[.string ⟨n.toArray⟩, vi, vr]
theorem rsC_z : (rsC [] (.slice none 0 0) (.slice none 0 0)).all (·.oneCell') = true := by simp [rsC, Value.oneCell']
theorem rsC_ss (n m : List UInt8) (a b c d : Value) : (rsC n a b).size = (rsC m c d).size := rfl
theorem rsC_lt (n : List UInt8) (a b : Value) (i : Nat) (h : i < 3) : i < (rsC n a b).size := h
end Go.Proofs.YtfiadgdinhmgbaaDoor
/-! (of general use) Steps of a region that draws: literals of two, new variables, whole rows stored. -/
namespace Go.Agg
open Go.RowKit
variable {P : Program} {ops : Array Oper} {o : Oper} {a : Act} {w : World} {Q : Exit → Act → World → Prop} {K : Act → World → Prop} {F : Prop}
theorem step_slice2B {α : Type} {E : Elem P α} (hg : o.guard = none) (x y : Operand) (ho : o.op = .buildSlice E.st 2 #[(0, x), (1, y)]) (vx vy : α) (hx : a.eval x = E.val vx) (hy : a.eval y = E.val vy)
  (h : ∀ v' w', SliceOf E w' v' [vx, vy] → (∀ b, v'.ownBlock = some b → b < w'.heap.size) → Below w.heap.size w w' → K (a.put o.dst v') w') : if Region.wanted o (yielded ops a.tmps) = true then o.wp P a w K Q else F :=
 step_val hg (v := .slice (some ⟨w.heap.size, 0, none⟩) 2 2) (w' := w.alloc (.cells ((E.val vx).cells ++ (E.val vy).cells) E.ty)) (by simp [execOp, ho, hx, hy, run_slice_two])
  (h _ _ (slice_of_block2 (Blk.new w E.ty _)) (fun b hb => by
   obtain rfl : w.heap.size = b := by simpa [Value.ownBlock] using hb
   simp) ((Below.refl _ _).alloc (Nat.le_refl _) _))
theorem step_zero (hg : o.guard = none) (ty : TypeId) (ho : o.op = .alloc ty) (cs : Array Value) (hz : (P.info? ty).map (·.zero) = some (some (.agg cs)))
  (h : ∀ g w', Blk w' g ty cs → Below w.heap.size w w' → w.heap.size ≤ g → K (a.put o.dst (.pointer (some ⟨g, 0, none⟩))) w') : if Region.wanted o (yielded ops a.tmps) = true then o.wp P a w K Q else F := by
 refine step_val hg (v := .pointer (some ⟨w.heap.size, 0, none⟩)) (w' := w.alloc (.cells cs ty)) ?_ (h _ _ (Blk.new w ty cs) ((Below.refl _ _).alloc (Nat.le_refl _) _) (Nat.le_refl _))
 cases hq : P.info? ty with
 | none => simp [hq] at hz
 | some i =>
  have hs : i.zero = some (.agg cs) := by simpa [hq] using hz
  simp [execOp, ho, Instr.alloc, zeroValue, typeInfo, hq, hs, newVar, newRow, Value.cells]
theorem step_put (hg : o.guard = none) (hd : o.dst = none) (ty : TypeId) (x y : Operand) (ho : o.op = .store ty x y) (g : Nat) (cs old : Array Value) (hx : a.eval x = .pointer (some ⟨g, 0, none⟩)) (hy : a.eval y = .agg cs)
  (hb : Blk w g ty old) (hi : (P.info? ty).map (·.size) = some cs.size) (hold : old.size = cs.size) (h1 : cs.all (·.oneCell') = true)
  (h : ∀ w', Blk w' g ty cs → Below g w w' → w'.heap.size = w.heap.size → (∀ k, k ≠ g → w'.heap[k]? = w.heap[k]?) → K a w') : if Region.wanted o (yielded ops a.tmps) = true then o.wp P a w K Q else F := by
 refine step_store hg hd ty x y ho _ _ hx hy (w' := w.setRow g cs) (by simp [Instr.storeAt, Instr.sureAddr, run_storeVar_row w g ty ty old cs hb hi hold h1]) ?_
 exact h _ (setRow_heap _ _ _ _ _ _ hb) (below_setRow (Below.refl _ _) (Nat.le_refl _)) (by simp) (fun k hk => setRow_other w g k cs hk)
end Go.Agg
/-! Blocks that a step leaves alone. -/
namespace Go.Agg
open Go.RowKit
variable {P : Program}
theorem Blk.type {w : World} {g : Nat} {t t' : TypeId} {cs cs' : Array Value} (h : Blk w g t cs) (h' : Blk w g t' cs') : t = t' := by
 unfold Blk at h h'
 rw [h] at h'
 injection h' with h'
 injection h' with _ h'
theorem Blk.only {w w' : World} {S : Nat → Prop} {g : Nat} {t : TypeId} {cs : Array Value} (h : Blk w g t cs) (ho : Only S w w') (hS : ¬ S g) : Blk w' g t cs := (ho.block g h.lt hS).trans h
theorem Only.of_eq {w w' : World} {g : Nat} {S : Nat → Prop} (hb : Below g w w') (hs : w'.heap.size = w.heap.size) (hk : ∀ k, k ≠ g → w'.heap[k]? = w.heap[k]?) (hg : S g) : Only S w w' :=
 ⟨hb.os, hb.tape, hb.output, Nat.le_of_eq hs.symm, fun k _ hn => hk k (fun e => hn (e ▸ hg))⟩
end Go.Agg
/-! (of general use) Arms: one cell, a row of cells, stored into a block; a look-up at a step of a region that draws; a literal of two in a list of operations. -/
namespace Go.Agg
open Go.RowKit
section
variable {P : Program} {ops : Array Oper} {rest : List Oper} {o : Oper} {a : Act} {w : World} {Q : Exit → Act → World → Prop}
theorem wpList_put1 (hg : o.guard = none) (hd : o.dst = none) (ty : TypeId) (x y : Operand) (ho : o.op = .store ty x y) (g i : Nat) (v : Value) (hx : a.eval x = .pointer (some ⟨g, i, none⟩)) (hy : a.eval y = v)
  {t : TypeId} {cs : Array Value} (hb : Blk w g t cs) (hi : i < cs.size) (hv : v.cells = #[v]) (h1 : v.oneCell' = true) (hs : (P.info? ty).map (·.size) = some 1) (ds : Array Value) (he : cs.setIfInBounds i v = ds)
  (h : ∀ w', Blk w' g t ds → Only (· = g) w w' → w'.heap.size = w.heap.size → wpList P ops Q rest a w') : wpList P ops Q (o :: rest) a w := by
 subst he
 exact wpList_store hg hd ty x y ho _ v hx hy (hb.run_put i hi v hv h1 hs) (h _ (hb.set i v) ⟨rfl, rfl, rfl, by simp [World.setCell], fun k _ hk => Below.heap_setCell _ _ _ _ hk⟩ (by simp [World.setCell]))
theorem wpList_putRow (hg : o.guard = none) (hd : o.dst = none) (ty : TypeId) (x y : Operand) (ho : o.op = .store ty x y) (g i : Nat) (xs ys zs ds : Array Value) (hx : a.eval x = .pointer (some ⟨g, i, none⟩)) (hy : a.eval y = .agg ds)
  {t : TypeId} (hb : Blk w g t (xs ++ (ys ++ zs))) (hl : ys.size = ds.size) (hi : i = xs.size) (hs : (P.info? ty).map (·.size) = some ds.size) (h1 : ds.all (·.oneCell') = true)
  (h : ∀ w', Blk w' g t (xs ++ (ds ++ zs)) → Only (· = g) w w' → wpList P ops Q rest a w') : wpList P ops Q (o :: rest) a w := by
 obtain ⟨w', hr, h2, h3⟩ := hb.run_row xs ys zs ds hl hs h1 hi
 exact wpList_store hg hd ty x y ho _ _ hx hy hr (h w' h2 h3)
theorem Blk.keepO {S : Nat → Prop} {w' : World} {g : Nat} {t : TypeId} {cs : Array Value} (h : Blk w g t cs) (ho : Only S w w') (hS : ¬ S g) : Blk w' g t cs := (ho.block g h.lt hS).trans h
theorem Only.ofBelow {S : Nat → Prop} {w w' : World} (h : Below w.heap.size w w') : Only S w w' := Only.of_below h
theorem Only.more {g : Nat} {w w' w'' : World} (h : Only (· = g) w w') (k : Only (· = g) w' w'') : Only (· = g) w w'' := h.trans k (fun _ _ h => h)
theorem Only.new {g : Nat} {w w' w'' : World} (h : Only (· = g) w w') (k : Below w'.heap.size w' w'') : Only (· = g) w w'' := h.trans (Only.of_below (S := fun _ => False) k) (fun _ _ h => h.elim)
end
end Go.Agg
namespace Go.Mp
open Go.RowKit Go.Instr
theorem exec_hit {P : Program} {α β : Type} [DecidableEq α] {o : Oper} {a : Act} {w : World} {mo xo : Operand} {t K E : TypeId} (ho : o.op = Op.lookup t mo xo true) (ht : P.underlying t = some (.map K E)) {κ : α → Value} {ν : β → Value} {z : Value}
  (hK : KeyEq P K κ) (hz : ∀ w, (zeroValue E).run P w = .ok z w) {b : Nat} {m : List (α × β)} (hm : a.eval mo = .map (some b)) (h : MapIs w b κ ν m) (x : α) (hx : a.eval xo = κ x) (v : β) (hr : mget m x = some v) :
  (execOp a.eval o).run P w = .ok (.value (.tuple #[ν v, .bool true])) w := by
 simp [execOp, ho, hm, hx, run_lookup_ok ht hK hz h x, Result.andThen, hr]
theorem exec_miss {P : Program} {α β : Type} [DecidableEq α] {o : Oper} {a : Act} {w : World} {mo xo : Operand} {t K E : TypeId} (ho : o.op = Op.lookup t mo xo true) (ht : P.underlying t = some (.map K E)) {κ : α → Value} {ν : β → Value} {z : Value}
  (hK : KeyEq P K κ) (hz : ∀ w, (zeroValue E).run P w = .ok z w) {b : Nat} {m : List (α × β)} (hm : a.eval mo = .map (some b)) (h : MapIs w b κ ν m) (x : α) (hx : a.eval xo = κ x) (hr : mget m x = none) :
  (execOp a.eval o).run P w = .ok (.value (.tuple #[z, .bool false])) w := by
 simp [execOp, ho, hm, hx, run_lookup_ok ht hK hz h x, Result.andThen, hr]
end Go.Mp
