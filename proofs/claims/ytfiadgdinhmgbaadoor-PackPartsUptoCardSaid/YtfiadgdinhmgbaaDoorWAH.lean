/- code.Cursor.Num. (Several texts in one.) -/
import Derived.Test.YtfiadgdinhmgbaaDoorWAG
import Derived.Test.YtfiadgdinhmgbaaDoorWAA
import Derived.Test.YtfiadgdinhmgbaaDoorShelf
import Derived.WalkMore
/-! code.Maker: numbers and texts as bytes. -/
namespace Go.Proofs.YtfiadgdinhmgbaaDoor
open Go.RowKit Pl Go.Agg
theorem or128 (k : Nat) : bits .or .u8 ((k : Int) % 256) 128 = ((UInt8.ofNat (k % 128 + 128)).toNat : Int) := by
  have h : ∀ m : Nat, m < 256 → bits .or .u8 (m : Int) 128 = ((UInt8.ofNat (m % 128 + 128)).toNat : Int) := by decide +kernel
  have := h (k % 256) (by omega)
  rw [show k % 256 % 128 = k % 128 by omega] at this
  rw [← this]
  congr 1
set_option maxRecDepth 100000 in
set_option maxHeartbeats 1000000 in
theorem number_any (g n : Nat) (v0 : Value) (b : List UInt8) (w : World) (hn : n ≤ 1099511627776) (hb : b.length ≤ 16777216) (hm : MkV g w v0 b) :
    Calls Tryd.prog 108 #[.pointer (some ⟨g, 0, none⟩), .int .u64 (n : Int)] w fun e w' => (∃ r, e = .returned r) ∧ ∃ v', MkV g w' v' (b ++ encN n) ∧ MkStep g w w' v0 v' := by
  have HM0 := Lib.hid hm
  clear hm
  go_enter Tryd.func108, Tryd.ntmps108
  go_wp2_with fail
  go_loopw [1] (fun x wr => ∃ k : Nat, x = .int .u64 (k : Int) ∧ k ≤ 1099511627776 ∧ ∃ bs v, MkV g wr v bs ∧ bs ++ encN k = b ++ encN n ∧ MkStep g w wr v0 v) (fun x _ => (intOf x).toNat)
  case atStart => exact ⟨n, rfl, hn, b, v0, HM0.out, rfl, MkStep.refl _ _ _⟩
  case round =>
    obtain ⟨w1, rfl⟩ : ∃ w1 : World, w1 = wr := ⟨_, rfl⟩
    obtain ⟨k, rfl, hk, bs, v, hm, heq, hw⟩ := hrel
    have hbs : bs.length ≤ 33554432 := by
      have h1 := congrArg List.length heq
      have h2 := encN_len hn
      simp only [List.length_append] at h1
      omega
    have h63 : bs.length + 1 ≤ 1099511627776 / 8 := by omega
    have hbase : g + 1 ≤ w1.heap.size := hm.blk.lt
    have HM := Lib.hid hm
    have HO := Lib.hid hm.own
    have HEQ := Lib.hid heq
    have HW := Lib.hid hw
    clear hm heq hw
    by_cases hlt : 128 ≤ k
    · have hI : (128 : Int) ≤ (k : Int) := by omega
      have hor := or128 k
      obtain ⟨c, hc⟩ : ∃ c, UInt8.ofNat (k % 128 + 128) = c := ⟨_, rfl⟩
      rw [hc] at hor
      have HE : Hid (bs ++ [c] ++ encN (k / 128) = b ++ encN n) := Lib.hid (by rw [← hc, ← HEQ.out, encN_ge hlt, List.append_assoc]; rfl)
      clear hlt hc
      go_wp2_with (first | (with_reducible refine Agg.wpList_loadL HM.out.load rfl _ rfl rfl ?_) | (refine Agg.wpList_pushO (E := EB) (base := g + 1) rfl rfl 16 rfl _ rfl _ rfl (c) rfl (fun _ => rfl) (by simp) HO.out h63 (by decide) hbase ?_; intro u1 v1 w2 ho1 hp1 hgr1; obtain ⟨w3, hrun, hmk, hst⟩ := MkV.put HM.out ho1 hp1 hgr1; have HMK := Lib.hid hmk; have HST := Lib.hid hst; clear ho1 hp1 hgr1 hmk hst) | (refine Agg.wpList_store rfl rfl 23 _ _ rfl (.pointer (some ⟨g, 0, none⟩)) _ rfl rfl hrun ?_))
      go_roundw
      case rel => exact ⟨k / 128, by go_num, by omega, _, _, HMK.out, HE.out, HW.out.trans HST.out⟩
      case measure => simp [intOf]; omega
    · obtain ⟨c, rfl⟩ : ∃ c : UInt8, k = c.toNat := ⟨UInt8.ofNat k, by simp; omega⟩
      have hI : ¬ (128 : Int) ≤ (c.toNat : Int) := by omega
      have HE : Hid (bs ++ [c] = b ++ encN n) := Lib.hid (by rw [← HEQ.out, encN_lt (by omega), UInt8.ofNat_toNat])
      clear hlt
      go_wp2_with (first | (with_reducible refine Agg.wpList_loadL HM.out.load rfl _ rfl rfl ?_) | (refine Agg.wpList_pushO (E := EB) (base := g + 1) rfl rfl 27 rfl _ rfl _ rfl (c) rfl (fun _ => rfl) (by simp) HO.out h63 (by decide) hbase ?_; intro u1 v1 w2 ho1 hp1 hgr1; obtain ⟨w3, hrun, hmk, hst⟩ := MkV.put HM.out ho1 hp1 hgr1; have HMK := Lib.hid hmk; have HST := Lib.hid hst; clear ho1 hp1 hgr1 hmk hst) | (refine Agg.wpList_store rfl rfl 23 _ _ rfl (.pointer (some ⟨g, 0, none⟩)) _ rfl rfl hrun ?_))
      refine bodyPost_end (results_none rfl _ _ _) rfl ?_
      exact ⟨⟨_, rfl⟩, _, by rw [← HE.out]; exact HMK.out, HW.out.trans HST.out⟩
set_option maxRecDepth 100000 in
set_option maxHeartbeats 1000000 in
theorem allow_any (g n m : Nat) (v : Value) (b : List UInt8) (w : World) (hn : n ≤ m) (hm : m ≤ 1099511627776) (hv : MkV g w v b) :
    Calls Tryd.prog 107 #[.pointer (some ⟨g, 0, none⟩), .int .i64 (n : Int), .int .i64 (m : Int)] w fun e w' => e = .returned (.bool true) ∧ w' = w := by
  have HB := Lib.hid hv.bad
  clear hv
  have hI : ¬ (m : Int) < (n : Int) := by omega
  go_enter Tryd.func107, Tryd.ntmps107
  go_wp2_with (first | (with_reducible refine Agg.wpList_loadL HB.out rfl _ rfl rfl ?_))
  go_ret
  exact ⟨rfl, rfl⟩
set_option maxRecDepth 100000 in
set_option maxHeartbeats 1000000 in
theorem num_any (g : Nat) (v0 x : Value) (ns : List Nat) (b : List UInt8) (w : World) (hall : ∀ n ∈ ns, n ≤ 1099511627776) (hl : ns.length ≤ 16) (hb : b.length ≤ 8388608) (hx : Off EI g w v0 x ns) (hm : MkV g w v0 b) :
    Calls Tryd.prog 99 #[.pointer (some ⟨g, 0, none⟩), x] w fun e w' => e = .returned (.pointer (some ⟨g, 0, none⟩)) ∧ ∃ v', MkV g w' v' (b ++ ns.flatMap encN) ∧ MkStep g w w' v0 v' := by
  have HM0 := Lib.hid hm
  have hlx := fun W => ints_len hx.slice W
  have HX := Lib.hid hx
  clear hm hx
  go_enter Tryd.func99, Tryd.ntmps99
  go_wp2_with fail
  go_loopw [11] (fun i wr => ∃ k : Nat, k ≤ ns.length ∧ i = .int .i64 (k : Int) ∧ ∃ v, MkV g wr v (b ++ (ns.take k).flatMap encN) ∧ MkStep g w wr v0 v) (fun i _ => ns.length - (intOf i).toNat)
  case atStart => exact ⟨0, by omega, rfl, v0, by simpa using HM0.out, MkStep.refl _ _ _⟩
  case round =>
    obtain ⟨w1, rfl⟩ : ∃ w1 : World, w1 = wr := ⟨_, rfl⟩
    obtain ⟨k, hk, rfl, v, hm, hst⟩ := hrel
    have HM := Lib.hid hm
    have HS := Lib.hid hst
    clear hm hst
    by_cases hlt : k < ns.length
    · obtain ⟨y, hyk⟩ : ∃ y, ns[k]? = some y := ⟨_, List.getElem?_eq_getElem hlt⟩
      have hy : y ≤ 1099511627776 := hall y (List.mem_of_getElem? hyk)
      obtain ⟨p, hadr, hld⟩ := int_at (HX.out.step HS.out).slice k y hyk
      have HL := Lib.hid hld
      have hbl : (b ++ (ns.take k).flatMap encN).length ≤ 16777216 := by
        have : ∀ l : List Nat, (∀ n ∈ l, n ≤ 1099511627776) → (l.flatMap encN).length ≤ l.length * 6 := by
          intro l
          induction l with
          | nil => intro _; simp
          | cons a l ih =>
            intro h
            have h1 := encN_len (h a (by simp))
            have h2 := ih fun n hn => h n (by simp [hn])
            simp only [List.flatMap_cons, List.length_append, List.length_cons]
            omega
        have h1 := this (ns.take k) fun n hn => hall n (List.mem_of_mem_take hn)
        simp only [List.length_append]
        have : (ns.take k).length ≤ 16 := by simp; omega
        omega
      have hfl : b ++ (ns.take k).flatMap encN ++ encN y = b ++ (ns.take (k + 1)).flatMap encN := by rw [List.take_add_one, hyk]; simp
      have HF := Lib.hid hfl
      have hbn : ((y : Int) % 18446744073709551616) = (y : Int) := by omega
      clear hld hyk hfl
      go_wp2_with (first | (with_reducible refine Agg.wpList_loadL HL.out rfl _ rfl rfl ?_))
      refine (allow_any g y 1099511627776 v _ w1 hy (by omega) HM.out).mono ?_
      rintro e w2 ⟨rfl, rfl⟩
      go_wp2_with fail
      refine (number_any g y v _ _ hy hbl HM.out).mono ?_
      rintro e w3 ⟨⟨r, rfl⟩, v3, hm3, hs3⟩
      rw [HF.out] at hm3
      have HM3 := Lib.hid hm3
      have HS3 := Lib.hid hs3
      clear hm3 hs3
      go_wp2_with fail
      go_roundw
      case rel => exact ⟨k + 1, by omega, by go_num, v3, HM3.out, HS.out.trans HS3.out⟩
      case measure => simp [intOf]; omega
    · obtain rfl : k = ns.length := by omega
      have HMT := Lib.hid (show MkV g w1 v (b ++ ns.flatMap encN) by have := HM.out; rwa [List.take_length] at this)
      go_wp2_with fail
      go_ret
      exact ⟨rfl, v, HMT.out, HS.out⟩
set_option maxRecDepth 100000 in
set_option maxHeartbeats 1000000 in
theorem raw_any (g : Nat) (v x : Value) (l b : List UInt8) (w : World) (hb : b.length ≤ 16777216) (hl : l.length ≤ 16777216) (hx : SliceOf EB w x l) (hm : MkV g w v b) :
    Calls Tryd.prog 109 #[.pointer (some ⟨g, 0, none⟩), x] w fun e w' => e = .returned (.pointer (some ⟨g, 0, none⟩)) ∧ ∃ v', MkV g w' v' (b ++ l) ∧ MkStep g w w' v v' := by
  have HM := Lib.hid hm
  have HX := Lib.hid hx
  have HO := Lib.hid hm.own
  have h63 : b.length + l.length ≤ 1099511627776 / 8 := by omega
  have hbase : g + 1 ≤ w.heap.size := hm.blk.lt
  clear hm hx
  go_enter Tryd.func109, Tryd.ntmps109
  go_wp2_with (first | (with_reducible refine Agg.wpList_loadL HM.out.load rfl _ rfl rfl ?_) | (refine Agg.wpList_appendO (E := EB) (base := g + 1) rfl _ _ rfl x rfl rfl l HO.out HX.out h63 (by decide) hbase ?_; intro v1 w2 ho1 hp1 hgr1; obtain ⟨w3, hrun, hmk, hst⟩ := MkV.put HM.out ho1 hp1 hgr1; have HMK := Lib.hid hmk; have HST := Lib.hid hst; clear ho1 hp1 hgr1 hmk hst) | (refine Agg.wpList_store rfl rfl 23 _ _ rfl (.pointer (some ⟨g, 0, none⟩)) _ rfl rfl hrun ?_))
  go_ret
  exact ⟨rfl, v1, HMK.out, HST.out⟩
end Go.Proofs.YtfiadgdinhmgbaaDoor
/-! bytes.Clone; code.Maker: Text, Done. -/
namespace Go.Proofs.YtfiadgdinhmgbaaDoor
open Go.RowKit Pl Go.Agg
theorem nil_is (n c : Nat) (W : World) : (binOp .eql 23 (.slice none n c) (.slice none 0 0)).run Tryd.prog W = .ok (.bool true) W := by kernel_rfl
theorem nil_not (a : Addr) (n c : Nat) (W : World) : (binOp .eql 23 (.slice (some a) n c) (.slice none 0 0)).run Tryd.prog W = .ok (.bool false) W := by kernel_rfl
set_option maxRecDepth 100000 in
set_option maxHeartbeats 1000000 in
theorem bclone_any (x : Value) (l : List UInt8) (w : World) (hl : l.length ≤ 33554432) (hx : SliceOf EB w x l) :
    Calls Tryd.prog 66 #[x] w fun e w' => ∃ v', e = .returned v' ∧ Own EB w.heap.size w' v' l ∧ Below w.heap.size w w' := by
  have HX := Lib.hid hx
  have h63 : ([] : List UInt8).length + l.length ≤ 1099511627776 / 8 := by simp; omega
  obtain ⟨q, c, rfl⟩ := hx.form
  cases q with
  | none =>
    have hl0 : l = [] := by
      rcases hx with ⟨_, _, _, h⟩ | ⟨a, cap, e, _⟩
      · exact h
      · injection e with e; cases e
    subst hl0
    have hnl := nil_is 0 c
    clear hx
    go_enter Tryd.func66, Tryd.ntmps66
    go_wp2_with fail
    go_ret
    exact ⟨_, rfl, Own.nil _ _ _, Below.refl _ _⟩
  | some a =>
    have hnl := nil_not a l.length c
    clear hx
    go_enter Tryd.func66, Tryd.ntmps66
    go_wp2_with (first | (refine Agg.wpList_slice0 (base := w.heap.size) EB rfl rfl (Nat.le_refl _) ?_; intro v1 w1 ho1 hx1 _; have HO1 := Lib.hid ho1; have HX1 := Lib.hid (SliceOf.below HX.out hx1); have hsz := hx1.size; clear ho1) | (refine Agg.wpList_appendO (E := EB) (base := w.heap.size) rfl _ _ rfl (.slice (some a) l.length c) rfl rfl l HO1.out HX1.out h63 (by decide) hsz ?_; intro v2 w2 ho2 hp2 _; have HO2 := Lib.hid ho2; have HP2 := Lib.hid (hx1.trans (hp2.below w.heap.size (Nat.le_refl _) hsz)); clear ho2 hp2))
    go_ret
    exact ⟨_, rfl, by simpa using HO2.out, HP2.out⟩
set_option maxRecDepth 100000 in
set_option maxHeartbeats 1000000 in
theorem done_any (g : Nat) (v : Value) (b : List UInt8) (w : World) (hb : b.length ≤ 33554432) (hm : MkV g w v b) :
    Calls Tryd.prog 84 #[.pointer (some ⟨g, 0, none⟩)] w fun e w' => ∃ v', e = .returned (.tuple #[v', .int .i64 0]) ∧ Own EB w.heap.size w' v' b ∧ Below w.heap.size w w' := by
  have HM := Lib.hid hm
  clear hm
  go_enter Tryd.func84, Tryd.ntmps84
  go_wp2_with (first | (with_reducible refine Agg.wpList_loadL HM.out.load rfl _ rfl rfl ?_) | (with_reducible refine Agg.wpList_loadL HM.out.bad rfl _ rfl rfl ?_))
  refine (bclone_any v b w hb HM.out.own.slice).mono ?_
  rintro e w1 ⟨v1, rfl, ho, hx⟩
  have HO := Lib.hid ho
  clear ho
  go_wp2_with fail
  go_ret2
  exact ⟨_, rfl, HO.out, hx⟩
set_option maxRecDepth 100000 in
set_option maxHeartbeats 1000000 in
theorem text_any (g : Nat) (v x : Value) (s : SV) (l b : List UInt8) (w : World) (hb : b.length ≤ 4194304) (hl : l.length ≤ 1048576) (hx : Off EBB g w v x [s]) (hs : Off EB g w v s.1 l) (hm : MkV g w v b) :
    Calls Tryd.prog 100 #[.pointer (some ⟨g, 0, none⟩), x] w fun e w' => e = .returned (.pointer (some ⟨g, 0, none⟩)) ∧ ∃ v', MkV g w' v' (b ++ (encN l.length ++ l)) ∧ MkStep g w w' v v' := by
  have HM := Lib.hid hm
  have HS := Lib.hid hs
  have hlx := fun W => bb_len hx.slice W
  have hls := fun W => bytes_len hs.slice W
  obtain ⟨q, hadr0, hld⟩ := bb_at hx.slice 0 s rfl
  have hadr : ∀ W, (Instr.indexAt 135 x (.int .i64 0)).run Tryd.prog W = .ok (.pointer (some q)) W := hadr0
  clear hadr0
  have HL := Lib.hid hld
  have hlt := fun k hk => hm.lt k hk
  have HLT := Lib.hid hlt
  have hg := hm.blk.lt
  clear hm hs hx hld hlt
  go_enter Tryd.func100, Tryd.ntmps100
  go_wp2_with fail
  go_loopw [9] (fun i wr => (i = .int .i64 0 ∧ wr = w) ∨ (i = .int .i64 1 ∧ ∃ v', MkV g wr v' (b ++ (encN l.length ++ l)) ∧ MkStep g w wr v v')) (fun i _ => 1 - (intOf i).toNat)
  case atStart => exact .inl ⟨rfl, rfl⟩
  case round =>
    obtain ⟨w1, rfl⟩ : ∃ w1 : World, w1 = wr := ⟨_, rfl⟩
    rcases hrel with ⟨rfl, rfl⟩ | ⟨rfl, v', hm', hs'⟩
    · go_wp2_with (first | (with_reducible refine Agg.wpList_loadL HL.out rfl _ rfl rfl ?_))
      refine (allow_any g l.length 1048576 v b _ hl (by omega) HM.out).mono ?_
      rintro e w2 ⟨rfl, rfl⟩
      go_wp2_with (first | (refine Agg.wpList_slice1 (E := EI) (base := w2.heap.size) rfl _ rfl l.length rfl (Nat.le_refl _) ?_; intro xs w3 hxs hx3; have HXS := Lib.hid hxs; have HX3 := Lib.hid hx3; clear hxs hx3))
      have hx3 := HX3.out
      have hsz := hx3.size
      have hoff : Off EI g w3 v xs [l.length] := Off.behind (w0 := w2) HXS.out.slice (fun k hk => (HXS.out.block k hk).1) hg HLT.out
      refine (num_any g v xs [l.length] b w3 (by simp; omega) (by simp) (by omega) hoff (HM.out.below hx3)).mono ?_
      rintro e w4 ⟨rfl, v4, hm4, hs4⟩
      have hs24 : MkStep g w2 w4 v v4 := (MkStep.of_below hx3).trans hs4
      have hoff4 := HS.out.step hs24
      have he6 := encN_len (n := l.length) (by omega)
      have HM4 := Lib.hid hm4
      have HS4 := Lib.hid hs24
      clear hs4 hs24 hoff
      have hfl : b ++ [l.length].flatMap encN = b ++ encN l.length := by simp
      go_wp2_with fail
      refine (raw_any g v4 s.1 l _ w4 (by simp only [hfl, List.length_append]; omega) (by omega) hoff4.slice HM4.out).mono ?_
      rintro e w5 ⟨rfl, v5, hm5, hs5⟩
      have HM5 := Lib.hid (show MkV g w5 v5 (b ++ (encN l.length ++ l)) by rw [hfl, List.append_assoc] at hm5; exact hm5)
      have HS5 := Lib.hid (HS4.out.trans hs5)
      clear hm5 hs5 hm4 hoff4 hfl
      go_wp2_with fail
      go_roundw
      case rel => exact .inr ⟨by go_num, v5, HM5.out, HS5.out⟩
      case measure => simp [intOf]
    · have HM' := Lib.hid hm'
      have HS' := Lib.hid hs'
      clear hm' hs'
      go_wp2_with fail
      go_ret
      exact ⟨rfl, v', HM'.out, HS'.out⟩
end Go.Proofs.YtfiadgdinhmgbaaDoor
/-! slices.Clone at bytes. -/
namespace Go.Proofs.YtfiadgdinhmgbaaDoor
open Go.RowKit Pl Go.Agg
end Go.Proofs.YtfiadgdinhmgbaaDoor
/-! (of general use) wire.Frame. -/
namespace Go.Proofs.YtfiadgdinhmgbaaDoor
open Go.RowKit Pl Go.Agg
/-- a slice of slices of bytes, and what lies in each -/
structure RowsIn (w : World) (vs : List SV) (ls : List (List UInt8)) : Prop where
  len : vs.length = ls.length
  row : ∀ (k : Nat) (s : SV) (l : List UInt8), vs[k]? = some s → ls[k]? = some l → BytesAt w s.1 l
theorem RowsIn.below {w w' : World} {vs : List SV} {ls : List (List UInt8)} (h : RowsIn w vs ls) (hb : Below w.heap.size w w') : RowsIn w' vs ls := ⟨h.len, fun k s l h1 h2 => (h.row k s l h1 h2).below hb⟩
theorem framed_take {ls : List (List UInt8)} {k : Nat} {l : List UInt8} (h : ls[k]? = some l) : framed (ls.take k) ++ (encN l.length ++ l) = framed (ls.take (k + 1)) := by
  rw [List.take_add_one, h]; simp [framed]
theorem framed_le (ls : List (List UInt8)) (k : Nat) : (framed (ls.take k)).length ≤ (framed ls).length := by
  have : framed ls = framed (ls.take k) ++ framed (ls.drop k) := by
    unfold framed; rw [← List.flatMap_append, List.take_append_drop]
  rw [this, List.length_append]; omega
end Go.Proofs.YtfiadgdinhmgbaaDoor
/-! (of general use) wire.begin. -/
namespace Go.Proofs.YtfiadgdinhmgbaaDoor
open Go.RowKit Pl Go.Agg
theorem sliceOf_taken {α : Type} {E : Elem Tryd.prog α} {w : World} {p : Option Addr} {c : Nat} {l : List α} (h : SliceOf E w (.slice p l.length c) l) (n : Nat) (hn : n ≤ l.length) : SliceOf E w (.slice p n c) (l.take n) := by
  rcases h with ⟨q, d, e, rfl⟩ | ⟨q, d, e, hq, hc⟩
  · obtain rfl : n = 0 := by simpa using hn
    exact SliceOf.nil _ _ _
  · simp only [Value.slice.injEq] at e
    obtain ⟨rfl, _, rfl⟩ := e
    refine .inr ⟨q, c, by rw [List.length_take, Nat.min_eq_left hn], hq, fun j u hj => hc j u ?_⟩
    have : E.flat l = E.flat (l.take n) ++ E.flat (l.drop n) := by rw [← Elem.flat_append, List.take_append_drop]
    rw [this, List.getElem?_append_left (List.getElem?_eq_some_iff.1 hj).1]
    exact hj
theorem and127 (b : UInt8) : bits .and .u8 (b.toNat : Int) 127 = ((b.toNat % 128 : Nat) : Int) := by
  have h : ∀ m : Nat, m < 256 → bits .and .u8 (m : Int) 127 = ((m % 128 : Nat) : Int) := by decide +kernel
  exact h _ b.toNat_lt
theorem and128 (b : UInt8) : bits .and .u8 (b.toNat : Int) 128 = ((b.toNat / 128 * 128 : Nat) : Int) := by
  have h : ∀ m : Nat, m < 256 → bits .and .u8 (m : Int) 128 = ((m / 128 * 128 : Nat) : Int) := by decide +kernel
  exact h _ b.toNat_lt
theorem i64_or_nat (a b : Nat) (ha : a < 9223372036854775808) (hb : b < 9223372036854775808) : bits .or .i64 (a : Int) (b : Int) = ((a ||| b : Nat) : Int) := by
  have hx : a ||| b < 2 ^ 63 := Nat.or_lt_two_pow (by omega) (by omega)
  show IntKind.i64.wrap ((BitVec.ofInt 64 (a : Int) ||| BitVec.ofInt 64 (b : Int)).toNat : Int) = _
  rw [BitVec.toNat_or, ofInt_u64 a (by omega), ofInt_u64 b (by omega), IntKind.wrap_i64]
  omega
theorem or_add (N x k : Nat) (hx : x < 128) (hN : N < 2 ^ (7 * k)) (hk : k < 4) : bits .or .i64 (N : Int) ((x * 2 ^ (7 * k) : Nat) : Int) = ((N + x * 2 ^ (7 * k) : Nat) : Int) := by
  have h5 : 2 ^ (7 * k) ≤ 2 ^ 21 := Nat.pow_le_pow_right (by omega) (by omega)
  have hp : x * 2 ^ (7 * k) ≤ 128 * 2 ^ 21 := Nat.mul_le_mul (by omega) h5
  rw [i64_or_nat _ _ (by omega) (by omega), Nat.or_comm, Nat.mul_comm, ← Nat.two_pow_add_eq_or_of_lt hN, Nat.add_comm]
end Go.Proofs.YtfiadgdinhmgbaaDoor
/-! (of general use) wire.Frames. -/
namespace Go.Agg
open Go.RowKit
variable {P : Program} {α : Type} {E : Elem P α} {base : Nat} {w w' : World} {v : Value} {l : List α}
theorem Own.keepT (h : Own E base w v l) (hk : ∀ (g : Nat) (cur : Array Value) (fr : Nat × Nat), w.heap[g]? = some (Obj.cells cur E.ty fr) → w'.heap[g]? = some (Obj.cells cur E.ty fr)) : Own E base w' v l := by
  obtain ⟨hfl, h | ⟨g, cap, cur, hv, hb, hc, hr⟩⟩ := h
  · exact ⟨hfl, .inl h⟩
  · exact ⟨hfl, .inr ⟨g, cap, cur, hv, hb, hk g cur _ hc, hr⟩⟩
theorem Own.cap (h : Own E base w v l) : ∀ p n c, v = .slice p n c → n ≤ c := by
  obtain ⟨_, ⟨rfl, _⟩ | ⟨g, cap, cur, rfl, _, _, hle, _⟩⟩ := h
  · intro p n c e; injection e with _ h1 h2; omega
  · intro p n c e; injection e with _ h1 h2; omega
end Go.Agg
namespace Go.Proofs.YtfiadgdinhmgbaaDoor
open Go.RowKit Pl Go.Agg
/-- rows of bytes, each in a block of its own -/
structure RowsOwn (base : Nat) (w : World) (vs : List SV) (ls : List (List UInt8)) : Prop where
  len : vs.length = ls.length
  row : ∀ (k : Nat) (s : SV) (l : List UInt8), vs[k]? = some s → ls[k]? = some l → Own EB base w s.1 l
section
variable {base : Nat} {w w' : World} {vs : List SV} {ls : List (List UInt8)} {v : Value} {r : List UInt8}
theorem RowsOwn.below (h : RowsOwn base w vs ls) (hb : Below w.heap.size w w') : RowsOwn base w' vs ls := ⟨h.len, fun k s l h1 h2 => (h.row k s l h1 h2).below hb⟩
theorem RowsOwn.pushed {u : Value} (h : RowsOwn base w vs ls) (hp : Pushed EBB base w w' u) : RowsOwn base w' vs ls := ⟨h.len, fun k s l h1 h2 => (h.row k s l h1 h2).keepT fun g cur fr hg => hp.blk g _ _ _ (by decide) hg⟩
theorem RowsOwn.rows (h : RowsOwn base w vs ls) : RowsIn w vs ls := ⟨h.len, fun k s l h1 h2 => (h.row k s l h1 h2).slice⟩
theorem RowsOwn.push {s : SV} {l : List UInt8} (h : RowsOwn base w vs ls) (hs : Own EB base w s.1 l) : RowsOwn base w (vs ++ [s]) (ls ++ [l]) := by
  refine ⟨by simp [h.len], fun k t m h1 h2 => ?_⟩
  have hl := h.len
  by_cases hk : k < vs.length
  · rw [List.getElem?_append_left hk] at h1
    rw [List.getElem?_append_left (by omega)] at h2
    exact h.row k t m h1 h2
  · rw [List.getElem?_append_right (by omega)] at h1 h2
    by_cases hk0 : k - vs.length = 0
    · rw [hk0] at h1
      rw [show k - ls.length = 0 by omega] at h2
      obtain rfl : s = t := by simpa using h1
      obtain rfl : l = m := by simpa using h2
      exact hs
    · rw [List.getElem?_eq_none (by simp; omega)] at h1; cases h1
/-- what is left of a clone -/
def Rest (base : Nat) (w : World) (v : Value) (r : List UInt8) : Prop :=
  (v = .slice none 0 0 ∧ r = []) ∨ ∃ g off cap cs, v = .slice (some ⟨g, off, none⟩) r.length cap ∧ r.length ≤ cap ∧ base ≤ g ∧ Blk w g 5 cs ∧ off + cap ≤ cs.size ∧ ∀ j u, (EB.flat r)[j]? = some u → cs[off + j]? = some u
theorem Rest.of_own (h : Own EB base w v r) : Rest base w v r := by
  obtain ⟨hfl, ⟨rfl, h0⟩ | ⟨g, cap, cur, rfl, hgb, hcur, hle, _, hsz, htk⟩⟩ := h
  · exact .inl ⟨rfl, List.length_eq_zero_iff.1 h0⟩
  · refine .inr ⟨g, 0, cap, cur, rfl, hle, hgb, hcur, by rw [hsz, show EB.n = 1 from rfl]; omega, fun j u hj => ?_⟩
    rw [← htk, List.getElem?_take] at hj
    split at hj
    · simpa using hj
    · cases hj
theorem Rest.slice (h : Rest base w v r) : BytesAt w v r := by
  rcases h with ⟨rfl, rfl⟩ | ⟨g, off, cap, cs, rfl, _, _, hb, _, hc⟩
  · exact SliceOf.nil _ _ _
  · exact .inr ⟨_, cap, rfl, hb.lt, fun j u hj => by rw [add_plain, hb.cell]; exact hc j u hj⟩
theorem Rest.room (h : Rest base w v r) : RoomN EB w v r := by
  rcases h with ⟨rfl, rfl⟩ | ⟨g, off, cap, cs, rfl, hle, _, hb, hsz, hc⟩
  · exact .inl ⟨rfl, rfl⟩
  · refine .inr ⟨g, off, cap, rfl, hle, hb.lt, fun j hj => ?_, fun j _ => frozen_of_row _ _ _ _ _ hb, fun j u hj => by rw [hb.cell]; exact hc j u hj⟩
    rw [show EB.n = 1 from rfl, Nat.mul_one] at hj
    rw [hb.cell, Array.getElem?_eq_getElem (by omega)]; rfl
theorem Rest.block (h : Rest base w v r) : ∀ k, v.ownBlock = some k → base ≤ k ∧ k < w.heap.size := by
  rcases h with ⟨rfl, rfl⟩ | ⟨g, off, cap, cs, rfl, _, hg, hb, _⟩
  · intro k hk; simp [Value.ownBlock] at hk
  · intro k hk
    obtain rfl : g = k := by simpa [Value.ownBlock] using hk
    exact ⟨hg, hb.lt⟩
theorem Rest.cap (h : Rest base w v r) : ∀ p n c, v = .slice p n c → n ≤ c := by
  rcases h with ⟨rfl, rfl⟩ | ⟨g, off, cap, cs, rfl, hle, _⟩
  · intro p n c e; injection e with _ h1 h2; omega
  · intro p n c e; injection e with _ h1 h2; omega
theorem Rest.below (h : Rest base w v r) (hb : Below w.heap.size w w') : Rest base w' v r := by
  rcases h with h | ⟨g, off, cap, cs, rfl, hle, hg, hk, hc⟩
  · exact .inl h
  · exact .inr ⟨g, off, cap, cs, rfl, hle, hg, hk.below hb, hc⟩
theorem Rest.pushed {u : Value} {B : Nat} (h : Rest base w v r) (hp : Pushed EBB B w w' u) : Rest base w' v r := by
  rcases h with h | ⟨g, off, cap, cs, rfl, hle, hg, hk, hc⟩
  · exact .inl h
  · exact .inr ⟨g, off, cap, cs, rfl, hle, hg, hp.blk g _ _ _ (by decide) hk, hc⟩
theorem Rest.drop {g off cap : Nat} (h : Rest base w (.slice (some ⟨g, off, none⟩) r.length cap) r) (k : Nat) (hk : k ≤ r.length) : Rest base w (.slice (some ⟨g, off + k, none⟩) (r.length - k) (cap - k)) (r.drop k) := by
  rcases h with ⟨h, _⟩ | ⟨g', off', cap', cs, h, hle, hg, hb, hsz, hc⟩
  · cases h
  · simp only [Value.slice.injEq, Option.some.injEq, Addr.mk.injEq] at h
    obtain ⟨⟨rfl, rfl, _⟩, _, rfl⟩ := h
    refine .inr ⟨g, off + k, cap - k, cs, by rw [List.length_drop], by simp; omega, hg, hb, by omega, fun j u hj => ?_⟩
    have e : EB.flat r = EB.flat (r.take k) ++ EB.flat (r.drop k) := by rw [← Elem.flat_append, List.take_append_drop]
    have hlen : (EB.flat (r.take k)).length = k := by rw [Elem.flat_length, show EB.n = 1 from rfl, List.length_take]; omega
    have := hc (k + j) u (by rw [e, List.getElem?_append_right (by omega), hlen, show k + j - k = j by omega]; exact hj)
    rwa [← Nat.add_assoc] at this
theorem Rest.zero {g off cap : Nat} (h : Rest base w (.slice (some ⟨g, off, none⟩) r.length cap) r) : Rest base w (.slice (some ⟨g, off, none⟩) 0 0) [] := by
  rcases h with ⟨h, _⟩ | ⟨g', off', cap', cs, h, hle, hg, hb, hsz, hc⟩
  · cases h
  · simp only [Value.slice.injEq, Option.some.injEq, Addr.mk.injEq] at h
    obtain ⟨⟨rfl, rfl, _⟩, _, rfl⟩ := h
    exact .inr ⟨g, off, 0, cs, rfl, Nat.le_refl _, hg, hb, by omega, fun j u hj => by simp [Elem.flat] at hj⟩
theorem Rest.empty {g off cap : Nat} (h : Rest base w (.slice (some ⟨g, off, none⟩) r.length cap) r) {m : List UInt8} (hm : m = []) : Rest base w (.slice (some ⟨g, off, none⟩) 0 0) m := by
  rw [hm]; exact h.zero
end
/-- what Frames answers -/
def FramesOut (base : Nat) (w : World) (e : Ending) (b : List UInt8) : Prop :=
  (frames b = none ∧ e = .returned (.tuple #[.slice none 0 0, .slice none 0 0, .int .i64 4])) ∨
  ∃ lv rv vs ls r, frames b = some (ls, r) ∧ e = .returned (.tuple #[lv, rv, .int .i64 0]) ∧ Own EBB base w lv vs ∧ RowsOwn base w vs ls ∧ Rest base w rv r
/-- .. and each row, and the rest, lie in blocks of their own -/
def FramesOutS (base : Nat) (w : World) (e : Ending) (b : List UInt8) : Prop :=
  (frames b = none ∧ e = .returned (.tuple #[.slice none 0 0, .slice none 0 0, .int .i64 4])) ∨
  ∃ lv rv vs ls r, frames b = some (ls, r) ∧ e = .returned (.tuple #[lv, rv, .int .i64 0]) ∧ Own EBB base w lv vs ∧ RowsOwn base w vs ls ∧ Rest base w rv r ∧ Dist vs ∧ ∃ m, (∀ k, rv.ownBlock = some k → k < m) ∧ ∀ b, SS vs b → m ≤ b
theorem FramesOutS.out {base : Nat} {w : World} {e : Ending} {b : List UInt8} (h : FramesOutS base w e b) : FramesOut base w e b := by
  rcases h with h | ⟨lv, rv, vs, ls, r, h1, h2, h3, h4, h5, _⟩
  · exact .inl h
  · exact .inr ⟨lv, rv, vs, ls, r, h1, h2, h3, h4, h5⟩
theorem dist_push {vs : List SV} {s : SV} {B : Nat} (h : Dist vs) (hv : ∀ b, SS vs b → b < B) (hs : ∀ b, s.1.ownBlock = some b → B ≤ b) : Dist (vs ++ [s]) := by
  intro i j u v hi hj hij b hu hv'
  have one : ∀ (i : Nat) (u : SV), (vs ++ [s])[i]? = some u → (i < vs.length ∧ vs[i]? = some u) ∨ (i = vs.length ∧ u = s) := fun i u h => by
    by_cases hi : i < vs.length
    · rw [List.getElem?_append_left hi] at h; exact .inl ⟨hi, h⟩
    · rw [List.getElem?_append_right (by omega)] at h
      by_cases h0 : i - vs.length = 0
      · rw [h0] at h
        obtain rfl : s = u := by simpa using h
        exact .inr ⟨by omega, rfl⟩
      · rw [List.getElem?_eq_none (by simp; omega)] at h; cases h
  rcases one i u hi with ⟨h1, h2⟩ | ⟨h1, rfl⟩ <;> rcases one j v hj with ⟨h3, h4⟩ | ⟨h3, rfl⟩
  · exact h i j u v h2 h4 hij b hu hv'
  · have := hv b ⟨i, u, h2, hu⟩; have := hs b hv'; omega
  · have := hv b ⟨j, v, h4, hv'⟩; have := hs b hu; omega
  · omega
theorem ss_push {vs : List SV} {s : SV} {b : Nat} (h : SS (vs ++ [s]) b) : SS vs b ∨ s.1.ownBlock = some b := by
  obtain ⟨i, u, hi, hb⟩ := h
  by_cases hl : i < vs.length
  · rw [List.getElem?_append_left hl] at hi; exact .inl ⟨i, u, hi, hb⟩
  · rw [List.getElem?_append_right (by omega)] at hi
    by_cases h0 : i - vs.length = 0
    · rw [h0] at hi
      obtain rfl : s = u := by simpa using hi
      exact .inr hb
    · rw [List.getElem?_eq_none (by simp; omega)] at hi; cases hi
theorem RowsOwn.lt {base : Nat} {w : World} {vs : List SV} {ls : List (List UInt8)} (h : RowsOwn base w vs ls) : ∀ b, SS vs b → base ≤ b ∧ b < w.heap.size := by
  rintro b ⟨k, s, hk, hb⟩
  obtain ⟨l, hl⟩ : ∃ l, ls[k]? = some l := ⟨_, List.getElem?_eq_getElem (by rw [← h.len]; exact (List.getElem?_eq_some_iff.1 hk).1)⟩
  obtain ⟨h1, cur, hc⟩ := (h.row k s l hk hl).block b hb
  exact ⟨h1, Agg.heap_lt hc⟩
end Go.Proofs.YtfiadgdinhmgbaaDoor
/-! Numbers out of bytes: the plain law of code.Cursor. -/
namespace Go.Agg
/-- a number at the begin of bytes: how many bytes it has (0: there is none), and what it is -/
def numGo : Nat → Nat → List UInt8 → Nat × Nat
  | _, n, [] => (0, n)
  | k, n, c :: t => if k = 6 then (0, n) else if c.toNat < 128 then (k + 1, n + c.toNat * 128 ^ k) else numGo (k + 1) (n + c.toNat % 128 * 128 ^ k) t
/-- .. taken at once -/
def dec : Nat → List UInt8 → Nat × Nat
  | _, [] => (0, 0)
  | 0, _ :: _ => (0, 0)
  | f + 1, c :: t => if c.toNat < 128 then (1, c.toNat) else if (dec f t).1 = 0 then (0, 0) else ((dec f t).1 + 1, c.toNat % 128 + 128 * (dec f t).2)
theorem numGo_dec : ∀ (l : List UInt8) (k n : Nat), k ≤ 6 → if (dec (6 - k) l).1 = 0 then (numGo k n l).1 = 0 else numGo k n l = (k + (dec (6 - k) l).1, n + (dec (6 - k) l).2 * 128 ^ k) := by
  intro l
  induction l with
  | nil => intro k n _; cases h : 6 - k <;> simp [dec, numGo]
  | cons c t ih =>
    intro k n hk
    by_cases h6 : k = 6
    · subst h6; simp [dec, numGo]
    · have hf : 6 - k = (6 - (k + 1)) + 1 := by omega
      rw [hf]
      simp only [dec, numGo, if_neg h6]
      by_cases hc : c.toNat < 128
      · simp [hc]
      · simp only [if_neg hc]
        have := ih (k + 1) (n + c.toNat % 128 * 128 ^ k) (by omega)
        by_cases h0 : (dec (6 - (k + 1)) t).1 = 0
        · rw [if_pos h0] at this ⊢
          simpa using this
        · rw [if_neg h0] at this
          rw [if_neg h0]
          simp only [if_neg (show ¬ (dec (6 - (k + 1)) t).1 + 1 = 0 by omega)]
          rw [this]
          refine Prod.ext (by show k + 1 + _ = k + (_ + 1); omega) ?_
          show n + c.toNat % 128 * 128 ^ k + (dec (6 - (k + 1)) t).2 * 128 ^ (k + 1) = n + (c.toNat % 128 + 128 * (dec (6 - (k + 1)) t).2) * 128 ^ k
          rw [Nat.pow_succ, Nat.add_mul, ← Nat.add_assoc]
          congr 1
          rw [Nat.mul_comm 128, Nat.mul_assoc, Nat.mul_comm (128 ^ k) 128]
theorem dec_le : ∀ (f : Nat) (l : List UInt8), (dec f l).1 ≤ f ∧ (dec f l).1 ≤ l.length ∧ (dec f l).2 < 128 ^ f := by
  intro f
  induction f with
  | zero => intro l; cases l <;> simp [dec]
  | succ f ih =>
    intro l
    cases l with
    | nil => simp [dec]; exact Nat.pow_pos (by omega)
    | cons c t =>
      obtain ⟨h1, h2, h3⟩ := ih t
      simp only [dec]
      have hp : 0 < 128 ^ f := Nat.pow_pos (by omega)
      rw [Nat.pow_succ]
      split
      · refine ⟨by show 1 ≤ f + 1; omega, by simp, ?_⟩
        show c.toNat < 128 ^ f * 128
        omega
      · split
        · refine ⟨by simp, by simp, ?_⟩
          show 0 < 128 ^ f * 128
          omega
        · refine ⟨by show _ + 1 ≤ _; omega, by show _ + 1 ≤ (c :: t).length; simp only [List.length_cons]; omega, ?_⟩
          show c.toNat % 128 + 128 * (dec f t).2 < 128 ^ f * 128
          have : c.toNat % 128 < 128 := Nat.mod_lt _ (by omega)
          omega
/-- it is the shortest form, just if it is as long as that -/
theorem dec_enc : ∀ (f : Nat) (l : List UInt8), (dec f l).1 ≠ 0 → (encN (dec f l).2).length ≤ (dec f l).1 ∧ ((encN (dec f l).2).length = (dec f l).1 → l.take (dec f l).1 = encN (dec f l).2) := by
  intro f
  induction f with
  | zero => intro l h; cases l <;> simp [dec] at h
  | succ f ih =>
    intro l h
    cases l with
    | nil => simp [dec] at h
    | cons c t =>
      simp only [dec] at h ⊢
      by_cases hc : c.toNat < 128
      · simp only [if_pos hc]
        rw [encN_lt hc]
        simp
      · simp only [if_neg hc] at h ⊢
        by_cases h0 : (dec f t).1 = 0
        · simp [h0] at h
        · simp only [if_neg h0] at h ⊢
          obtain ⟨h1, h2⟩ := ih t h0
          have hc2 := c.toNat_lt
          by_cases hv : (dec f t).2 = 0
          · rw [hv, Nat.mul_zero, Nat.add_zero, encN_lt (Nat.mod_lt _ (by omega))]
            refine ⟨by simp, fun h => ?_⟩
            simp only [List.length_cons, List.length_nil] at h
            omega
          · have hge : 128 ≤ c.toNat % 128 + 128 * (dec f t).2 := by omega
            have hd : (c.toNat % 128 + 128 * (dec f t).2) / 128 = (dec f t).2 := by omega
            have hm : (c.toNat % 128 + 128 * (dec f t).2) % 128 = c.toNat % 128 := by omega
            rw [encN_ge hge, hd, hm]
            refine ⟨by simp only [List.length_cons]; omega, fun h => ?_⟩
            simp only [List.length_cons] at h
            rw [List.take_succ_cons, h2 (by omega)]
            congr 1
            have : c.toNat % 128 + 128 = c.toNat := by omega
            rw [this]
            simp
theorem enc_dec : ∀ (f n : Nat) (y : List UInt8), n < 128 ^ f → 0 < f → dec f (encN n ++ y) = ((encN n).length, n) := by
  intro f
  induction f with
  | zero => intro n y h h0; omega
  | succ f ih =>
    intro n y h _
    by_cases hn : n < 128
    · rw [encN_lt hn]
      have e : (UInt8.ofNat n).toNat = n := by simp; omega
      simp only [List.singleton_append, dec, e, if_pos hn]
      rfl
    · rw [encN_ge (by omega)]
      have e : (UInt8.ofNat (n % 128 + 128)).toNat = n % 128 + 128 := by simp; omega
      have hf : 0 < f := by
        rcases Nat.eq_zero_or_pos f with h0 | h0
        · subst h0; simp at h; omega
        · exact h0
      have := ih (n / 128) y (by rw [Nat.pow_succ] at h; exact Nat.div_lt_of_lt_mul (by rw [Nat.mul_comm]; exact h)) hf
      have hpos : (encN (n / 128)).length ≠ 0 := by rw [encN]; split <;> simp
      simp only [List.cons_append, dec, e, if_neg (show ¬ n % 128 + 128 < 128 by omega), this, if_neg hpos, List.length_cons]
      refine Prod.ext rfl ?_
      show (n % 128 + 128) % 128 + 128 * (n / 128) = n
      omega
/-- a number that is got, and what is left of bytes -/
def getN (most : Nat) (b : List UInt8) : Option (Nat × List UInt8) :=
  if (dec 6 b).1 = 0 ∨ (dec 6 b).1 ≠ (encN (dec 6 b).2).length ∨ 1099511627776 < (dec 6 b).2 ∨ most < (dec 6 b).2 then none else some ((dec 6 b).2, b.drop (dec 6 b).1)
theorem getN_enc {most n : Nat} (h : n ≤ 1099511627776) (hm : n ≤ most) (y : List UInt8) : getN most (encN n ++ y) = some (n, y) := by
  have e := enc_dec 6 n y (by omega) (by omega)
  have hpos : (encN n).length ≠ 0 := by rw [encN]; split <;> simp
  unfold getN
  rw [e, if_neg (by rintro (h | h | h | h) <;> first | exact hpos h | exact h rfl | omega)]
  simp
theorem getN_some {most n : Nat} {b y : List UInt8} (h : getN most b = some (n, y)) : b = encN n ++ y ∧ n ≤ most ∧ n ≤ 1099511627776 := by
  unfold getN at h
  split at h
  · cases h
  · rename_i hc
    have h1 : (dec 6 b).1 ≠ 0 := fun e => hc (.inl e)
    have h2 : (dec 6 b).1 = (encN (dec 6 b).2).length := Decidable.byContradiction fun e => hc (.inr (.inl e))
    obtain ⟨rfl, rfl⟩ : (dec 6 b).2 = n ∧ b.drop (dec 6 b).1 = y := by simpa using h
    have := (dec_enc 6 b h1).2 h2.symm
    exact ⟨by rw [← this, List.take_append_drop], by omega, by omega⟩
end Go.Agg
/-! code.Cursor: fail, length, Num. -/
namespace Go.Proofs.YtfiadgdinhmgbaaDoor
open Go.RowKit Pl Go.Agg
def cuC (v : Value) (e : Nat) : Array Value := #[v, .int .i64 (e : Int)]
theorem restKeepT {base : Nat} {w w' : World} {v : Value} {r : List UInt8} (h : Rest base w v r) (hk : ∀ (g : Nat) (cur : Array Value) (fr : Nat × Nat), w.heap[g]? = some (Obj.cells cur 5 fr) → w'.heap[g]? = some (Obj.cells cur 5 fr)) : Rest base w' v r := by
  rcases h with h | ⟨g, off, cap, cs, rfl, hle, hg, hb, hc⟩
  · exact .inl h
  · exact .inr ⟨g, off, cap, cs, rfl, hle, hg, hk g cs _ hb, hc⟩
/-- a cursor at g: what is left, and what is wrong -/
structure CuV (base g : Nat) (w : World) (v : Value) (r : List UInt8) (e : Nat) : Prop where
  blk : Blk w g 106 (cuC v e)
  rest : Rest base w v r
section
variable {base g : Nat} {w w' : World} {v : Value} {r : List UInt8} {e : Nat}
theorem CuV.load (h : CuV base g w v r e) : LoadsL Tryd.prog w 23 (some ⟨g, 0, none⟩) v :=
  h.blk.one (P := Tryd.prog) 0 rfl (by kernel_rfl : Tryd.prog.underlying 23 = some (.slice 5)) rfl
theorem CuV.err (h : CuV base g w v r e) : LoadsL Tryd.prog w 30 (some ⟨g, 1, none⟩) (.int .i64 (e : Int)) :=
  h.blk.one (P := Tryd.prog) 1 rfl Tryd.underlying30 rfl
theorem CuV.below (h : CuV base g w v r e) (hb : Below w.heap.size w w') : CuV base g w' v r e := ⟨h.blk.below hb, h.rest.below hb⟩
/-- one cell of it written -/
theorem CuV.put (h : CuV base g w v r e) (i : Nat) (hi : i < 2) (u : Value) (hu : u.cells = #[u]) (h1 : u.oneCell' = true) {ty : TypeId} (hs : (Tryd.prog.info? ty).map (·.size) = some 1) :
    ∃ w', (Instr.storeAt ty (.pointer (some ⟨g, i, none⟩)) u).run Tryd.prog w = .ok () w' ∧ Blk w' g 106 ((cuC v e).setIfInBounds i u) ∧ Only (· = g) w w' ∧ (∀ {B : Nat} {x : Value} {l : List UInt8}, Rest B w x l → Rest B w' x l) := by
  refine ⟨_, h.blk.run_put i (by simpa [cuC] using hi) u hu h1 hs, h.blk.set i u, ⟨rfl, rfl, rfl, by simp [World.setCell], fun k _ hk => Below.heap_setCell _ _ _ _ hk⟩, fun {B x l} hr => restKeepT hr fun k cur fr hk => ?_⟩
  rw [Below.heap_setCell _ _ _ _ (by
    show k ≠ g
    rintro rfl
    have hb := h.blk
    unfold Blk at hb
    rw [hk] at hb
    injection hb with hb
    injection hb with _ hb
    exact absurd hb (by decide))]
  exact hk
end
set_option maxRecDepth 100000 in
set_option maxHeartbeats 1000000 in
theorem fail_any (base g : Nat) (v : Value) (r : List UInt8) (e c : Nat) (w : World) (hm : CuV base g w v r e) :
    Calls Tryd.prog 96 #[.pointer (some ⟨g, 0, none⟩), .int .i64 (c : Int)] w fun x w' => (∃ r, x = .returned r) ∧ CuV base g w' (.slice none 0 0) [] (if e = 0 then c else e) ∧ Only (· = g) w w' := by
  have HE := Lib.hid hm.err
  have HM := Lib.hid hm
  clear hm
  by_cases h0 : e = 0
  · subst h0
    obtain ⟨w1, hrun1, hb1, ho1, hr1⟩ := HM.out.put (ty := 30) 1 (by omega) (.int .i64 (c : Int)) rfl rfl (by kernel_rfl)
    have hm1 : CuV base g w1 v r c := ⟨hb1, hr1 HM.out.rest⟩
    obtain ⟨w2, hrun2, hb2, ho2, _⟩ := hm1.put (ty := 23) 0 (by omega) (.slice none 0 0) rfl rfl (by kernel_rfl)
    have HO := Lib.hid (ho1.trans ho2 fun _ _ h => h)
    have HB := Lib.hid hb2
    clear hb1 ho1 hr1 hm1 hb2 ho2
    go_enter Tryd.func96, Tryd.ntmps96
    go_wp2_with (first | (with_reducible refine Agg.wpList_loadL HE.out rfl _ rfl rfl ?_) | (refine Agg.wpList_store rfl rfl 30 _ _ rfl (.pointer (some ⟨g, 1, none⟩)) _ rfl rfl hrun1 ?_) | (refine Agg.wpList_store rfl rfl 23 _ _ rfl (.pointer (some ⟨g, 0, none⟩)) _ rfl rfl hrun2 ?_))
    refine bodyPost_end (results_none rfl _ _ _) rfl ?_
    exact ⟨⟨_, rfl⟩, ⟨HB.out, .inl ⟨rfl, rfl⟩⟩, HO.out⟩
  · obtain ⟨w2, hrun2, hb2, ho2, _⟩ := HM.out.put (ty := 23) 0 (by omega) (.slice none 0 0) rfl rfl (by kernel_rfl)
    have hq : ((e : Int) == 0) = false := by simp [h0]
    have HH := Lib.hid h0
    have HO := Lib.hid ho2
    have HB := Lib.hid hb2
    clear hb2 ho2 h0
    go_enter Tryd.func96, Tryd.ntmps96
    go_wp2_with (first | (with_reducible refine Agg.wpList_loadL HE.out rfl _ rfl rfl ?_) | (refine Agg.wpList_store rfl rfl 23 _ _ rfl (.pointer (some ⟨g, 0, none⟩)) _ rfl rfl hrun2 ?_))
    refine bodyPost_end (results_none rfl _ _ _) rfl ?_
    exact ⟨⟨_, rfl⟩, ⟨HB.out, .inl ⟨rfl, rfl⟩⟩, HO.out⟩
set_option maxRecDepth 100000 in
set_option maxHeartbeats 1000000 in
theorem length_any (n : Nat) (w : World) (hn : n < 4398046511104) :
    Calls Tryd.prog 95 #[.int .u64 (n : Int)] w fun e w' => e = .returned (.int .i64 ((encN n).length : Int)) ∧ w' = w := by
  go_enter Tryd.func95, Tryd.ntmps95
  go_wp2_with fail
  go_loopw [0, 3] (fun x m wr => ∃ k j : Nat, x = .int .u64 (k : Int) ∧ m = .int .i64 (j : Int) ∧ k < 4398046511104 ∧ j ≤ 100 ∧ j + (encN k).length = (encN n).length + 1 ∧ wr = w) (fun x _ _ => (intOf x).toNat)
  case atStart => exact ⟨n, 1, rfl, rfl, hn, by omega, by omega, rfl⟩
  case round =>
    obtain ⟨k, j, rfl, rfl, hk, hj, heq, rfl⟩ := hrel
    have h7 : (encN n).length ≤ 6 := encN_len' 6 n (by omega) (by omega)
    have hpos : 0 < (encN k).length := by rw [encN]; split <;> simp
    by_cases hlt : 128 ≤ k
    · have hI : (128 : Int) ≤ (k : Int) := by omega
      have hE := encN_ge hlt
      have HE := Lib.hid (show j + 1 + (encN (k / 128)).length = (encN n).length + 1 by rw [hE] at heq; simp only [List.length_cons] at heq; omega)
      have hj6 : j ≤ 6 := by omega
      clear hE heq hpos
      go_wp2_with fail
      go_roundw
      case rel => exact ⟨k / 128, j + 1, by go_num, by go_num, by omega, by omega, HE.out, trivial⟩
      case measure => simp [intOf]; omega
    · have hI : ¬ (128 : Int) ≤ (k : Int) := by omega
      have hj2 : (j : Int) = ((encN n).length : Int) := by rw [encN_lt (by omega)] at heq; simp only [List.length_cons, List.length_nil] at heq; omega
      have HJ := Lib.hid hj2
      clear hj2 heq hpos
      go_wp2_with fail
      go_ret
      exact ⟨by rw [← HJ.out]; rfl, rfl⟩
end Go.Proofs.YtfiadgdinhmgbaaDoor
/-! code.Cursor.Num. -/
namespace Go.Proofs.YtfiadgdinhmgbaaDoor
open Go.RowKit Pl Go.Agg
theorem runLow (p : Option Addr) (n c k : Nat) (hk : k ≤ n) (W : World) : (Instr.sliceAt 23 (.slice p n c) (some (.int .i64 (k : Int))) none none).run Tryd.prog W = .ok (.slice (if c = k then p else p.map (·.add k)) (n - k) (c - k)) W := by
  have hu : Tryd.prog.underlying 23 = some (.slice 5) := by kernel_rfl
  simp [Instr.sliceAt, Instr.slice, Instr.sliceBounds, Instr.sliceBound, run_underlying hu, Sem.run_bind, asIntOf]
  intro h
  omega
/-- the rest of a rest -/
theorem rest_low {base : Nat} {w : World} {v : Value} {r : List UInt8} (h : Rest base w v r) (k : Nat) (hk : k ≤ r.length) :
    ∃ vx, (∀ W, (Instr.sliceAt 23 v (some (.int .i64 (k : Int))) none none).run Tryd.prog W = .ok vx W) ∧ Rest base w vx (r.drop k) ∧ vx.cells = #[vx] ∧ vx.oneCell' = true := by
  have h' := h
  rcases h with ⟨rfl, rfl⟩ | ⟨g, off, cap, cs, rfl, hle, hg, hb, hsz, hc⟩
  · obtain rfl : k = 0 := by simpa using hk
    exact ⟨_, fun W => runLow _ _ _ 0 (by omega) W, by simpa using h', rfl, rfl⟩
  · refine ⟨_, fun W => runLow _ _ _ k hk W, ?_, rfl, rfl⟩
    by_cases hck : cap = k
    · rw [if_pos hck, show r.length - k = 0 by omega, show cap - k = 0 by omega]
      exact h'.empty (List.drop_eq_nil_of_le (by omega))
    · rw [if_neg hck]
      have := h'.drop k hk
      have e : (some (⟨g, off, none⟩ : Addr)).map (·.add k) = some ⟨g, off + k, none⟩ := by rw [Option.map_some, add_plain]
      rw [e]
      exact this
theorem or_shift (N x k : Nat) (hx : x < 128) (hN : N < 128 ^ k) (hk : k ≤ 5) : bits .or .u64 (N : Int) (IntKind.u64.wrap ((x : Int) * 2 ^ (7 * k))) = ((N + x * 128 ^ k : Nat) : Int) := by
  have e : 128 ^ k = 2 ^ (7 * k) := by rw [Nat.pow_mul]
  have h5 : 2 ^ (7 * k) ≤ 2 ^ 35 := Nat.pow_le_pow_right (by omega) (by omega)
  have hp : x * 2 ^ (7 * k) ≤ 128 * 2 ^ 35 := Nat.mul_le_mul (by omega) h5
  have e2 : (x : Int) * 2 ^ (7 * k) = ((x * 2 ^ (7 * k) : Nat) : Int) := by push_cast; rfl
  rw [e] at hN
  rw [e2, IntKind.wrap_u64, Int.emod_eq_of_lt (by omega) (by omega), u64_or_nat _ _ (by omega) (by omega), e, Nat.or_comm, Nat.mul_comm, ← Nat.two_pow_add_eq_or_of_lt hN, Nat.add_comm]
theorem andNot128 (b : UInt8) : bits .andNot .u8 (b.toNat : Int) 128 = ((b.toNat % 128 : Nat) : Int) := by
  have h : ∀ m : Nat, m < 256 → bits .andNot .u8 (m : Int) 128 = ((m % 128 : Nat) : Int) := by decide +kernel
  exact h _ b.toNat_lt
/-- what Num answers -/
def CNum (base g most : Nat) (r : List UInt8) (e : Nat) (x : Ending) (w' : World) : Prop :=
  (∃ n y v', getN most r = some (n, y) ∧ x = .returned (.int .i64 (n : Int)) ∧ CuV base g w' v' y e) ∨
  (getN most r = none ∧ x = .returned (.int .i64 0) ∧ CuV base g w' (.slice none 0 0) [] (if e = 0 then 4 else e))
set_option maxRecDepth 100000 in
set_option maxHeartbeats 4000000 in
theorem cnum_any (base g most : Nat) (v : Value) (r : List UInt8) (e : Nat) (w : World) (hr : r.length ≤ 16777216) (hmo : most ≤ 1099511627776) (hm : CuV base g w v r e) :
    Calls Tryd.prog 81 #[.pointer (some ⟨g, 0, none⟩), .int .i64 (most : Int)] w fun x w' => CNum base g most r e x w' ∧ Only (· = g) w w' := by
  have hlr := fun W => bytes_len hm.rest.slice W
  have HM := Lib.hid hm
  clear hm
  go_enter Tryd.func81, Tryd.ntmps81
  go_wp2_with fail
  go_step3
  go_wp2_with (first | (with_reducible refine Agg.wpList_loadL HM.out.load rfl _ rfl rfl ?_))
  go_step3
  go_wp2_with (first | (with_reducible refine Agg.wpList_loadL HM.out.load rfl _ rfl rfl ?_))
  go_loopw [5, 6, 16] (fun n m i wr => ∃ k N : Nat, k ≤ r.length ∧ k ≤ 6 ∧ i = .int .i64 (k : Int) ∧ n = .int .u64 (N : Int) ∧ m = .int .i64 0 ∧ N < 128 ^ k ∧ numGo 0 0 r = numGo k N (r.drop k) ∧ wr = w) (fun _ _ i _ => 7 - (intOf i).toNat)
  case atStart => exact ⟨0, 0, by omega, by omega, rfl, rfl, rfl, by simp, by simp, rfl⟩
  case round =>
    obtain ⟨k, N, hkl, hk6, rfl, rfl, rfl, hN, hgo, rfl⟩ := hrel
    have HGO := Lib.hid hgo
    have HNN := Lib.hid hN
    clear hgo hN
    by_cases hlt : k < r.length
    · obtain ⟨b, hbk⟩ : ∃ b, r[k]? = some b := ⟨_, List.getElem?_eq_getElem hlt⟩
      have hdrop : r.drop k = b :: r.drop (k + 1) := by
        obtain ⟨h1, rfl⟩ := List.getElem?_eq_some_iff.1 hbk
        exact List.drop_eq_getElem_cons h1
      obtain ⟨q, hadr, hld⟩ := byte_at HM.out.rest.slice k b hbk
      have HL := Lib.hid hld
      have hb256 : b.toNat < 256 := b.toNat_lt
      by_cases h6 : k = 6
      · have h6I : ((k : Int) == 6) = true := by simp; omega
        have HGO := Lib.hid (show numGo 0 0 r = (0, N) by rw [HGO.out, hdrop, numGo, if_pos h6])
        clear hld hbk hdrop h6
        go_wp2_with (first | (with_reducible refine Agg.wpList_loadL HL.out rfl _ rfl rfl ?_))
        have HNONE := Lib.hid (show getN most r = none by
          have hd := numGo_dec r 0 0 (by omega)
          have h0 : (dec 6 r).1 = 0 := by
            by_cases h0 : (dec 6 r).1 = 0
            · exact h0
            · rw [if_neg h0, HGO.out] at hd
              have h1 : (0 : Nat) = 0 + (dec 6 r).1 := congrArg Prod.fst hd
              omega
          unfold getN
          rw [if_pos (.inl h0)])
        skip
        go_wp2_with fail
        refine (fail_any base g v r e 4 _ HM.out).mono ?_
        rintro x w9 ⟨⟨rr, rfl⟩, hcu, hon⟩
        have HCU := Lib.hid hcu
        have HON := Lib.hid hon
        clear hcu hon
        go_wp2_with fail
        try rw [Exit.noGoto_ret]
        go_ret
        exact ⟨.inr ⟨HNONE.out, rfl, HCU.out⟩, HON.out⟩

      · have hk5 : k ≤ 5 := by omega
        have h6I : ((k : Int) == 6) = false := by simp; omega
        have HGO := Lib.hid (show numGo 0 0 r = if b.toNat < 128 then (k + 1, N + b.toNat * 128 ^ k) else numGo (k + 1) (N + b.toNat % 128 * 128 ^ k) (r.drop (k + 1)) by rw [HGO.out, hdrop, numGo, if_neg h6])
        clear hld hbk hdrop h6
        by_cases hb : b.toNat < 128
        · have hI : (b.toNat : Int) < 128 := by omega
          obtain ⟨M, hM⟩ : ∃ M, N + b.toNat * 128 ^ k = M := ⟨_, rfl⟩
          have hor := or_shift N b.toNat k hb HNN.out hk5
          rw [hM] at hor
          have HDEC := Lib.hid (show dec 6 r = (k + 1, M) by
            have hd := numGo_dec r 0 0 (by omega)
            have hg := HGO.out
            rw [if_pos hb, hM] at hg
            rw [hg] at hd
            split at hd
            · exact absurd hd (by simp)
            · simp only [Nat.zero_add, Nat.pow_zero, Nat.mul_one, Nat.sub_zero] at hd
              exact hd.symm)
          have HMB := Lib.hid (show M < 4398046511104 by
            have := (dec_le 6 r).2.2
            rw [HDEC.out] at this
            exact this)
          clear hM hb
          go_wp2_with (first | (with_reducible refine Agg.wpList_loadL HL.out rfl _ rfl rfl ?_))
          refine (length_any M _ HMB.out).mono ?_
          rintro x w8 ⟨rfl, rfl⟩
          obtain ⟨ln, hln⟩ : ∃ n, (encN M).length = n := ⟨_, rfl⟩
          rw [hln]
          have HLN := Lib.hid hln
          clear hln
          by_cases h1 : k + 1 = ln
          · have hne : ((k : Int) + 1 != (ln : Int)) = false := by simp; omega
            by_cases h2 : 1099511627776 < M
            · have h2I : (1099511627776 : Int) < (M : Int) := by omega
              have HNONE := Lib.hid (show getN most r = none by unfold getN; rw [HDEC.out, if_pos (.inr (.inr (.inl h2)))])
              clear h1 h2
              go_wp2_with fail
              refine (fail_any base g v r e 4 _ HM.out).mono ?_
              rintro x w9 ⟨⟨rr, rfl⟩, hcu, hon⟩
              have HCU := Lib.hid hcu
              have HON := Lib.hid hon
              clear hcu hon
              go_wp2_with fail
              try rw [Exit.noGoto_ret]
              go_ret
              exact ⟨.inr ⟨HNONE.out, rfl, HCU.out⟩, HON.out⟩

            · have h2I : ¬ (1099511627776 : Int) < (M : Int) := by omega
              by_cases h3 : most < M
              · have h3I : (most : Int) < (M : Int) := by omega
                have HNONE := Lib.hid (show getN most r = none by unfold getN; rw [HDEC.out, if_pos (.inr (.inr (.inr h3)))])
                clear h1 h2 h3
                go_wp2_with fail
                refine (fail_any base g v r e 4 _ HM.out).mono ?_
                rintro x w9 ⟨⟨rr, rfl⟩, hcu, hon⟩
                have HCU := Lib.hid hcu
                have HON := Lib.hid hon
                clear hcu hon
                go_wp2_with fail
                try rw [Exit.noGoto_ret]
                go_ret
                exact ⟨.inr ⟨HNONE.out, rfl, HCU.out⟩, HON.out⟩

              · have h3I : ¬ (most : Int) < (M : Int) := by omega
                have HSOME := Lib.hid (show getN most r = some (M, r.drop (k + 1)) by
                  unfold getN
                  rw [HDEC.out, if_neg (by
                    rintro (h | h | h | h)
                    · exact absurd h (by simp)
                    · exact h (by show k + 1 = (encN M).length; rw [HLN.out]; exact h1)
                    · exact h2 h
                    · exact h3 h)])
                have h3N : ¬ most < M := h3
                have hk0 : ((k : Int) + 1 == 0) = false := by simp; omega
                have hm0 : ¬ (most : Int) < 0 := by omega
                clear h1 h2 h3
                obtain ⟨vx, hsv, hrx, hvc, hv1⟩ := rest_low HM.out.rest (k + 1) (by omega)
                rw [show ((k + 1 : Nat) : Int) = (k : Int) + 1 by omega] at hsv
                obtain ⟨w9, hrun, hb9, ho9, hr9⟩ := HM.out.put (ty := 23) 0 (by omega) vx hvc hv1 (by kernel_rfl)
                have HCU := Lib.hid (show CuV base g w9 vx (r.drop (k + 1)) e from ⟨hb9, hr9 hrx⟩)
                have HON := Lib.hid ho9
                clear hrx hvc hv1 hb9 ho9 hr9
                go_wp2_with (first | (with_reducible refine Agg.wpList_loadL HM.out.load rfl _ rfl rfl ?_) | (refine Agg.wpList_store rfl rfl 23 _ _ rfl (.pointer (some ⟨g, 0, none⟩)) _ rfl rfl hrun ?_))
                try rw [Exit.noGoto_ret]
                go_ret
                exact ⟨.inl ⟨M, _, vx, HSOME.out, rfl, HCU.out⟩, HON.out⟩
          · have hne : ((k : Int) + 1 != (ln : Int)) = true := by simp; omega
            have HNONE := Lib.hid (show getN most r = none by unfold getN; rw [HDEC.out, if_pos (.inr (.inl (by show k + 1 ≠ (encN M).length; rw [HLN.out]; exact h1)))])
            clear h1
            go_wp2_with fail
            refine (fail_any base g v r e 4 _ HM.out).mono ?_
            rintro x w9 ⟨⟨rr, rfl⟩, hcu, hon⟩
            have HCU := Lib.hid hcu
            have HON := Lib.hid hon
            clear hcu hon
            go_wp2_with fail
            try rw [Exit.noGoto_ret]
            go_ret
            exact ⟨.inr ⟨HNONE.out, rfl, HCU.out⟩, HON.out⟩


        · have hI : ¬ (b.toNat : Int) < 128 := by omega
          have hand := andNot128 b
          obtain ⟨x, hx⟩ : ∃ x, b.toNat % 128 = x := ⟨_, rfl⟩
          rw [hx] at hand
          have hx128 : x < 128 := by omega
          obtain ⟨M, hM⟩ : ∃ M, N + x * 128 ^ k = M := ⟨_, rfl⟩
          have hor := or_shift N x k hx128 HNN.out hk5
          rw [hM] at hor
          have HGO2 := Lib.hid (show numGo 0 0 r = numGo (k + 1) M (r.drop (k + 1)) by rw [HGO.out, if_neg hb, hx, hM])
          have HM2 := Lib.hid (show M < 128 ^ (k + 1) by
            have h1 := HNN.out
            have h2 : x * 128 ^ k ≤ 127 * 128 ^ k := Nat.mul_le_mul (by omega) (Nat.le_refl _)
            rw [Nat.pow_succ]
            omega)
          clear hb hx hM
          go_wp2_with (first | (with_reducible refine Agg.wpList_loadL HL.out rfl _ rfl rfl ?_))
          go_roundw
          case rel => exact ⟨k + 1, M, by omega, by omega, by go_num, rfl, rfl, HM2.out, HGO2.out, trivial⟩
          case measure => simp [intOf]; omega
    · have HGO := Lib.hid (show numGo 0 0 r = (0, N) by rw [HGO.out, List.drop_eq_nil_of_le (by omega)]; rfl)
      have HNONE := Lib.hid (show getN most r = none by
        have hd := numGo_dec r 0 0 (by omega)
        have h0 : (dec 6 r).1 = 0 := by
          by_cases h0 : (dec 6 r).1 = 0
          · exact h0
          · rw [if_neg h0, HGO.out] at hd
            have h1 : (0 : Nat) = 0 + (dec 6 r).1 := congrArg Prod.fst hd
            omega
        unfold getN
        rw [if_pos (.inl h0)])
      skip
      go_wp2_with fail
      refine (fail_any base g v r e 4 _ HM.out).mono ?_
      rintro x w9 ⟨⟨rr, rfl⟩, hcu, hon⟩
      have HCU := Lib.hid hcu
      have HON := Lib.hid hon
      clear hcu hon
      go_wp2_with fail
      try rw [Exit.noGoto_ret]
      go_ret
      exact ⟨.inr ⟨HNONE.out, rfl, HCU.out⟩, HON.out⟩

end Go.Proofs.YtfiadgdinhmgbaaDoor
