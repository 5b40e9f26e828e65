/- A region that draws its order, in three parts: a quiet head in one class of worlds, a row of operations one behind the other, a quiet end in another class. Over any program. (Several texts in one.) -/
import Derived.Test.YtfiadgdinhmgbaaGreatDoorEAJ
import Derived.Test.YtfiadgdinhmgbaaGreatDoorEAH
import Derived.StillTailTactics
import Derived.Test.YtfiadgdinhmgbaaGreatDoorEAI
import Derived.Test.YtfiadgdinhmgbaaGreatDoorEAK
import Derived.Test.YtfiadgdinhmgbaaGreatDoorEAO
import Derived.Test.YtfiadgdinhmgbaaGreatDoorEAP
import Derived.Test.YtfiadgdinhmgbaaGreatDoorEAT
import Derived.StillTail
import Derived.Deep.Quiet
/-! spencekit.mark, markByte; slices of slices of bytes -/
namespace Go.Agg
open Go.RowKit
variable {P : Program}
end Go.Agg
namespace Go.Proofs.YtfiadgdinhmgbaaGreatDoor
open Go.RowKit Pl Go.Agg
theorem mark_any (k i : Nat) (hk : k ≤ 16777216) (hi : i ≤ 16777216) (w : World) : Calls Tryz.prog 44 #[.int .i64 (k : Int), .int .i64 (i : Int)] w fun e w' => e = .returned (.int .i64 ((1000003 * (k + 7) + i : Nat) : Int)) ∧ w = w' := by
 go_enter Tryz.func44, Tryz.ntmps44
 go_wp2_with fail
 go_ret
 exact ⟨by simp, rfl⟩
theorem markByte_any (k i : Nat) (hk : k ≤ 16777216) (hi : i ≤ 16777216) (w : World) : Calls Tryz.prog 28 #[.int .i64 (k : Int), .int .i64 (i : Int)] w fun e w' => e = .returned (.int .u8 ((mkB k i).toNat : Int)) ∧ w' = w := by
 go_enter Tryz.func28, Tryz.ntmps28
 go_wp2_with fail
 refine (mark_any k i hk hi _).mono ?_
 rintro e w1 ⟨rfl, rfl⟩
 go_wp2_with fail
 go_ret
 exact ⟨ret_u8 (mkB_int k i), rfl⟩
end Go.Proofs.YtfiadgdinhmgbaaGreatDoor
/-! spencekit.OverBytes: the bytes of a slice of one's own, written over. -/
namespace Go.Proofs.YtfiadgdinhmgbaaGreatDoor
open Go.RowKit Pl Go.Agg
theorem overB_at (g m cap k : Nat) (hk : k < m) (W : World) : (Instr.indexAt 23 (.slice (some ⟨g, 0, none⟩) m cap) (.int .i64 (k : Int))).run Tryz.prog W = .ok (.pointer (some ⟨g, k, none⟩)) W := by
 have hel : Tryz.prog.elem 23 = 5 := by kernel_rfl
 have hsz : ∀ W, (Go.sizeOf 5).run Tryz.prog W = .ok 1 W := fun W => by kernel_rfl
 rw [run_indexAt_slice W 23 _ m cap .i64 (k : Int) (by rw [hel]; kernel_rfl), if_pos (by omega), hel, hsz]
 simp [Result.andThen, Addr.add]
 rcases k with _ | k <;> simp
set_option maxRecDepth 100000 in
set_option maxHeartbeats 4000000 in
theorem overBytes_any (v : Value) (l : List UInt8) (base : Nat) (hl : l.length ≤ 1048576) (w : World) (h : Own EB base w v l) :
  Calls Tryz.prog 18 #[v] w fun e w' => (∃ r, e = .returned r) ∧ Only (fun k => v.ownBlock = some k) w w' := by
 obtain ⟨_, ⟨rfl, _⟩ | ⟨g, cap, cur, rfl, hg, hc, hnc, hcm, hsz, _⟩⟩ := h
 ·go_enter Tryz.func18, Tryz.ntmps18
  go_wp2_with fail
  go_loopw [3] (fun i wr => i = .int .i64 0 ∧ wr = w) (fun _ _ => 0)
  case atStart => exact ⟨rfl, rfl⟩
  case round =>
   obtain ⟨rfl, rfl⟩ := hrel
   go_wp2_with fail
   refine bodyPost_end (results_none rfl _ _ _) rfl ?_
   exact ⟨⟨_, rfl⟩, Only.refl _ _⟩
 ·have hb0 : Blk w g 5 cur := hc
  have hs0 : cur.size = cap := by rw [hsz]; exact Nat.mul_one _
  clear hc hsz
  by_cases hcl : cap ≤ l.length + 12
  ·have hci : (cap : Int) ≤ (l.length : Int) + 12 := by omega
   go_enter Tryz.func18, Tryz.ntmps18
   go_wp2_with fail
   go_loopw [3] (fun i wr => ∃ (k : Nat) (cs : Array Value), k ≤ cap ∧ i = .int .i64 (k : Int) ∧ Blk wr g 5 cs ∧ cs.size = cap ∧ Only (· = g) w wr) (fun i _ => cap - (intOf i).toNat)
   case atStart => exact ⟨0, cur, by omega, rfl, hb0, hs0, Only.refl _ _⟩
   case round =>
    obtain ⟨wr1, rfl⟩ : ∃ y : World, y = wr := ⟨_, rfl⟩
    obtain ⟨k, cs, hk, rfl, hb, hs, ho⟩ := hrel
    have HB := Lib.hid hb
    have HS := Lib.hid hs
    have HO := Lib.hid ho
    clear hb hs ho
    by_cases hlt : k < cap
    ·have hd1 : decide ((k : Int) < (cap : Int)) = true := by simp; omega
     have hia := overB_at g (cap) cap k hlt
     go_wp2_with fail
     refine (markByte_any 2 k (by omega) (by omega) wr1).mono ?_
     rintro e w2 ⟨rfl, rfl⟩
     obtain ⟨w3, hr3, hb3, ho3⟩ := Blk.run_one (P := Tryz.prog) (ty := 5) HB.out k (by rw [HS.out]; omega) (.int .u8 ((mkB 2 k).toNat : Int)) rfl rfl (by kernel_rfl) _ rfl
     have HR3 := Lib.hid hr3
     have HB3 := Lib.hid hb3
     have HO3 := Lib.hid (HO.out.trans ho3 (fun _ _ h => h))
     clear hr3 hb3 ho3
     go_wp2_with (first | (refine wpList_store rfl rfl 5 _ _ rfl (.pointer (some ⟨g, k, none⟩)) (.int .u8 ((mkB 2 k).toNat : Int)) rfl rfl HR3.out ?_))
     go_roundw
     case rel => exact ⟨k + 1, _, by omega, by go_num, HB3.out, by rw [Array.size_setIfInBounds, HS.out], HO3.out⟩
     case measure => simp [intOf]; omega
    ·obtain rfl : k = cap := by omega
     go_wp2_with fail
     refine bodyPost_end (results_none rfl _ _ _) rfl ?_
     exact ⟨⟨_, rfl⟩, HO.out.mono (fun i _ h => by subst h; rfl)⟩
  ·have hci : ¬ (cap : Int) ≤ (l.length : Int) + 12 := by omega
   go_enter Tryz.func18, Tryz.ntmps18
   go_wp2_with fail
   go_loopw [3] (fun i wr => ∃ (k : Nat) (cs : Array Value), k ≤ l.length + 12 ∧ i = .int .i64 (k : Int) ∧ Blk wr g 5 cs ∧ cs.size = cap ∧ Only (· = g) w wr) (fun i _ => l.length + 12 - (intOf i).toNat)
   case atStart => exact ⟨0, cur, by omega, rfl, hb0, hs0, Only.refl _ _⟩
   case round =>
    obtain ⟨wr1, rfl⟩ : ∃ y : World, y = wr := ⟨_, rfl⟩
    obtain ⟨k, cs, hk, rfl, hb, hs, ho⟩ := hrel
    have HB := Lib.hid hb
    have HS := Lib.hid hs
    have HO := Lib.hid ho
    clear hb hs ho
    by_cases hlt : k < l.length + 12
    ·have hd1 : decide ((k : Int) < ((l.length + 12 : Nat) : Int)) = true := by simp; omega
     have hia := overB_at g (l.length + 12) cap k hlt
     go_wp2_with fail
     refine (markByte_any 2 k (by omega) (by omega) wr1).mono ?_
     rintro e w2 ⟨rfl, rfl⟩
     obtain ⟨w3, hr3, hb3, ho3⟩ := Blk.run_one (P := Tryz.prog) (ty := 5) HB.out k (by rw [HS.out]; omega) (.int .u8 ((mkB 2 k).toNat : Int)) rfl rfl (by kernel_rfl) _ rfl
     have HR3 := Lib.hid hr3
     have HB3 := Lib.hid hb3
     have HO3 := Lib.hid (HO.out.trans ho3 (fun _ _ h => h))
     clear hr3 hb3 ho3
     go_wp2_with (first | (refine wpList_store rfl rfl 5 _ _ rfl (.pointer (some ⟨g, k, none⟩)) (.int .u8 ((mkB 2 k).toNat : Int)) rfl rfl HR3.out ?_))
     go_roundw
     case rel => exact ⟨k + 1, _, by omega, by go_num, HB3.out, by rw [Array.size_setIfInBounds, HS.out], HO3.out⟩
     case measure => simp [intOf]; omega
    ·obtain rfl : k = l.length + 12 := by omega
     go_wp2_with fail
     refine bodyPost_end (results_none rfl _ _ _) rfl ?_
     exact ⟨⟨_, rfl⟩, HO.out.mono (fun i _ h => by subst h; rfl)⟩
end Go.Proofs.YtfiadgdinhmgbaaGreatDoor
/-! spencekit.markText, markNamed. -/
namespace Go.Proofs.YtfiadgdinhmgbaaGreatDoor
open Go.RowKit Pl Go.Agg
def mkT (k i : Nat) : List UInt8 := [35, UInt8.ofNat k, UInt8.ofNat (k / 256), UInt8.ofNat (k / 65536), 47, UInt8.ofNat i, UInt8.ofNat (i / 256), UInt8.ofNat (i / 65536)]
theorem mkT_flat (k i : Nat) : EB.flat (mkT k i) = [.int .u8 35, .int .u8 ((k : Int) % 256), .int .u8 ((k : Int) / 256 % 256), .int .u8 ((k : Int) / 65536 % 256), .int .u8 47, .int .u8 ((i : Int) % 256), .int .u8 ((i : Int) / 256 % 256), .int .u8 ((i : Int) / 65536 % 256)] := by
 have h : ∀ x : UInt8, EB.cs x = [.int .u8 (x.toNat : Int)] := fun _ => rfl
 have h2 : ∀ n : Nat, ((UInt8.ofNat n).toNat : Int) = (n : Int) % 256 := fun n => by simp
 simp only [Elem.flat, mkT, List.flatMap_cons, List.flatMap_nil, h, List.singleton_append, List.append_nil, h2]
 simp
theorem mkT_at (k i : Nat) (w : World) : BytesAt (w.alloc (.cells #[.int .u8 35, .int .u8 ((k : Int) % 256), .int .u8 ((k : Int) / 256 % 256), .int .u8 ((k : Int) / 65536 % 256), .int .u8 47, .int .u8 ((i : Int) % 256), .int .u8 ((i : Int) / 256 % 256), .int .u8 ((i : Int) / 65536 % 256)] 5)) (.slice (some ⟨w.heap.size, 0, none⟩) 8 8) (mkT k i) := by
 refine .inr ⟨_, 8, rfl, (Blk.new w _ _).lt, fun j u hj => ?_⟩
 rw [mkT_flat] at hj
 rw [add_plain, Nat.zero_add, (Blk.new w _ _).cell]
 simpa using hj
set_option maxRecDepth 100000 in
set_option maxHeartbeats 1000000 in
theorem markText_any (k i : Nat) (w : World) : Calls Tryz.prog 103 #[.int .i64 (k : Int), .int .i64 (i : Int)] w fun e w' => e = .returned (.string ⟨(mkT k i).toArray⟩) ∧ Below w.heap.size w w' := by
 go_enter Tryz.func103, Tryz.ntmps103
 have HM := Lib.hid (mkT_at k i w)
 go_wp2_with (first | (with_reducible refine wpList_toStr HM.out _ rfl (by kernel_rfl) rfl ?_))
 go_ret
 exact ⟨rfl, (Below.refl _ _).alloc (Nat.le_refl _) _⟩
end Go.Proofs.YtfiadgdinhmgbaaGreatDoor
/-! spencekit.markKid. -/
namespace Go.Proofs.YtfiadgdinhmgbaaGreatDoor
open Go.RowKit Pl Go.Agg Go.Tr
set_option maxRecDepth 100000 in
set_option maxHeartbeats 4000000 in
theorem markKid_any (k i : Nat) (w : World) : Calls Tryz.prog 62 #[.int .i64 (k : Int), .int .i64 (i : Int)] w fun e w' => e = .returned (.agg (kdC (mkT k i, ndZ))) ∧ Below w.heap.size w w' := by
 go_enter Tryz.func62, Tryz.ntmps62
 go_wp2_with (first | (refine Agg.wpList_zero rfl 28 rfl (kdC kdZ) kd_zero ?_; intro g4 w1 hb hx hg; have HB1 := Lib.hid hb; have HX1 := Lib.hid hx; have HG := Lib.hid (show w.heap.size ≤ g4 from hg); clear hb hx hg))
 refine (markText_any k i w1).mono ?_
 rintro e w2 ⟨rfl, hx⟩
 have HB2 := Lib.hid (HB1.out.below hx)
 have HX2 := Lib.hid (belowThen HX1.out (Nat.le_refl _) hx)
 clear hx
 go_wp2_with (first | (with_reducible refine wpList_build1 28 0 _ rfl rfl (.string ⟨(mkT k i).toArray⟩) rfl (.agg (kdC (mkT k i, ndZ))) (kd_build1 _) ?_) | (refine Agg.wpList_put rfl rfl 28 _ _ rfl g4 (kdC (mkT k i, ndZ)) (kdC kdZ) rfl rfl HB2.out (kd_info _) rfl (kdC_one _) ?_; intro w3 hb hx hs9 hk; have ho9 := Only.of_eq (S := (· = g4)) hx hs9 hk rfl; have HF := Lib.hid hb; have HXF := Lib.hid (HX2.out.trans (ho9.below (B := w.heap.size) HX2.out.size (fun i hi => by subst hi; exact HG.out))); clear hb hx hs9 hk ho9))
 exact Agg.post_row rfl rfl HF.out kd_under rfl (kd_info _) rfl ⟨rfl, HXF.out⟩
end Go.Proofs.YtfiadgdinhmgbaaGreatDoor
/-! spencekit.OverKid: a kid's own blocks, written over. -/
namespace Go.Proofs.YtfiadgdinhmgbaaGreatDoor
open Go.RowKit Pl Go.Agg Go.Tr
def OvC (N : Nat) : Prop := ∀ (t : T) (_ : count t ≤ N) (_ : msz t ≤ 1048576) (x : NdV) (bs : List Nat) (base : Nat) (w : World) (_ : OwnT base w x t bs) (_ : bs.Nodup),
 Calls Tryz.prog 17 #[.agg (ndC x)] w fun e w' => (∃ r, e = .returned r) ∧ Only (· ∈ bs) w w'
set_option maxRecDepth 100000 in
set_option maxHeartbeats 4000000 in
theorem overKid_any {N : Nat} (ih : OvC N) (y : KdV) (z : K) (hc : count z.2 ≤ N) (hm : msz z.2 ≤ 1048576) (bs : List Nat) (base : Nat) (w : World) (h : OwnT base w y.2 z.2 bs) (hn : bs.Nodup) :
  Calls Tryz.prog 61 #[.agg (kdC y)] w fun e w' => (∃ r, e = .returned r) ∧ Only (· ∈ bs) w w' := by
 have HH := Lib.hid h
 have HIH := Lib.hid ih
 clear h ih
 go_enter Tryz.func61, Tryz.ntmps61
 go_wp2_with (first | (refine wpList_box rfl 28 _ rfl (kdC y) rfl ?_; intro g1 w1 hb hx hg; have HB1 := Lib.hid hb; have HX1 := Lib.hid (Only.of_below (S := (· ∈ bs)) hx); have HH1 := Lib.hid (OwnT.below hx HH.out); clear hb hx hg) | (with_reducible refine wpList_loadL (kid_node HB1.out) rfl _ rfl rfl ?_))
 refine (HIH.out z.2 hc hm y.2 bs base w1 HH1.out hn).mono ?_
 rintro e w2 ⟨⟨r, rfl⟩, ho⟩
 have HO := Lib.hid (HX1.out.then2 ho)
 clear ho
 go_wp2_with fail
 refine bodyPost_end (results_none rfl _ _ _) rfl ?_
 exact ⟨⟨_, rfl⟩, HO.out⟩
def OkC (N : Nat) : Prop := ∀ (l : List K) (_ : ∀ x ∈ l, count x.2 ≤ N) (_ : mszL l ≤ 1048576) (ks : List KdV) (v : Value) (cs : List Nat) (base : Nat) (w : World) (_ : Agg.Own EK base w v ks) (_ : OwnL base w ks l cs) (_ : (ownB v ++ cs).Nodup),
 Calls Tryz.prog 39 #[v] w fun e w' => (∃ r, e = .returned r) ∧ Only (· ∈ ownB v ++ cs) w w'
set_option maxRecDepth 100000 in
set_option maxHeartbeats 4000000 in
theorem overNode_of {N : Nat} (hk : OkC N) : OvC (N + 1) := by
 intro t hc hm x bs base w h hn
 obtain ⟨k, b, l⟩ := t
 obtain ⟨_, hb, ks, cs, hr, hl, rfl⟩ := h
 have hbl : b.length ≤ 1048576 := Nat.le_trans (bytes_msz k b l) hm
 have hml : mszL l ≤ 1048576 := by simp only [msz] at hm; omega
 have HC := Lib.hid (fun x (hx : x ∈ l) => show count x.2 ≤ N by have h1 := countL_mem hx; simp only [count] at hc; omega)
 have HB := Lib.hid hb
 have HR := Lib.hid hr
 have HL := Lib.hid hl
 have HK := Lib.hid hk
 have HNB := Lib.hid (show (ownB x.2.2.1 ++ cs).Nodup from (List.nodup_append.1 hn).2.1)
 have HAP := Lib.hid (fun i hi j hj => (List.nodup_append.1 hn).2.2 i hi j hj)
 clear hb hr hl hk hc hm
 go_enter Tryz.func17, Tryz.ntmps17
 go_wp2_with (first | (refine wpList_box rfl 26 _ rfl (ndC x) rfl ?_; intro g1 w1 hb hx hg; have HB1 := Lib.hid hb; have HX1 := Lib.hid (Only.of_below (S := (· ∈ ownB x.2.1.1 ++ (ownB x.2.2.1 ++ cs))) hx); have HBb := Lib.hid (HB.out.below hx); have HRb := Lib.hid (HR.out.below hx); have HLb := Lib.hid (OwnL.below hx HL.out); have HG := Lib.hid (show w.heap.size ≤ g1 from hg); clear hb hx hg) | (with_reducible refine wpList_loadL (NdL.of_blk HB1.out).bytes rfl _ rfl rfl ?_))
 refine (overBytes_any x.2.1.1 b base hbl w1 HBb.out).mono ?_
 rintro e w2 ⟨⟨r, rfl⟩, ho⟩
 have HB2 := Lib.hid (Agg.Blk.keepO HB1.out ho (fun e => by have := (own_range HB.out g1 (mem_ownB.2 e)).2; have := HG.out; omega))
 have HR2 := Lib.hid (own_stays HRb.out ho (fun k hk e => HAP.out k (mem_ownB.2 e) k (List.mem_append.2 (.inl hk)) rfl))
 have HL2 := Lib.hid (OwnL.only ho l ks cs HLb.out (fun k hk e => HAP.out k (mem_ownB.2 e) k (List.mem_append.2 (.inr hk)) rfl))
 have HX2 := Lib.hid (HX1.out.then2 (ho.mono (fun i _ e => List.mem_append.2 (.inl (mem_ownB.2 e)))))
 clear ho
 go_wp2_with (first | (with_reducible refine wpList_loadL (NdL.of_blk HB2.out).kids rfl _ rfl rfl ?_))
 refine (HK.out l HC.out hml ks x.2.2.1 cs base w2 HR2.out HL2.out HNB.out).mono ?_
 rintro e w3 ⟨⟨r3, rfl⟩, ho⟩
 have HX3 := Lib.hid (HX2.out.then2 (ho.mono (fun i _ e => List.mem_append.2 (.inr e))))
 clear ho
 go_wp2_with fail
 refine bodyPost_end (results_none rfl _ _ _) rfl ?_
 exact ⟨⟨_, rfl⟩, HX3.out⟩
end Go.Proofs.YtfiadgdinhmgbaaGreatDoor
/-! spencekit.OverKids. -/
namespace Go.Proofs.YtfiadgdinhmgbaaGreatDoor
open Go.RowKit Pl Go.Agg Go.Tr
theorem OwnL.head {base : Nat} {w : World} {ks : List KdV} {l : List K} {c : List Nat} {q : Nat} {z : K} (h : OwnL base w (ks.drop q) (l.drop q) c) (hz : l[q]? = some z) :
  ∃ (y : KdV) (b2 c2 : List Nat), ks[q]? = some y ∧ y.1 = z.1 ∧ OwnT base w y.2 z.2 b2 ∧ OwnL base w (ks.drop (q + 1)) (l.drop (q + 1)) c2 ∧ c = b2 ++ c2 := by
 obtain ⟨hlt, he⟩ := List.getElem?_eq_some_iff.1 hz
 rw [List.drop_eq_getElem_cons hlt, he] at h
 by_cases hk : q < ks.length
 ·rw [List.drop_eq_getElem_cons hk] at h
  obtain ⟨n, t⟩ := z
  obtain ⟨h1, b2, c2, h2, h3, h4⟩ := h
  exact ⟨ks[q], b2, c2, List.getElem?_eq_getElem hk, h1, h2, h3, h4⟩
 ·rw [List.drop_eq_nil_of_le (by omega)] at h
  exact h.elim
theorem overK_at (g m cap k : Nat) (hk : k < m) (W : World) : (Instr.indexAt 24 (.slice (some ⟨g, 0, none⟩) m cap) (.int .i64 (k : Int))).run Tryz.prog W = .ok (.pointer (some ⟨g, k * 4, none⟩)) W := by
 have hel : Tryz.prog.elem 24 = 28 := by kernel_rfl
 have hsz : ∀ W, (Go.sizeOf 28).run Tryz.prog W = .ok 4 W := fun W => by kernel_rfl
 rw [run_indexAt_slice W 24 _ m cap .i64 (k : Int) (by rw [hel]; kernel_rfl), if_pos (by omega), hel, hsz]
 simp [Result.andThen, Addr.add]
 rcases k with _ | k <;> simp
theorem row_parts (cs : Array Value) (cap k : Nat) (hs : cs.size = cap * 4) (hk : k < cap) : ∃ xs ys zs : Array Value, cs = xs ++ (ys ++ zs) ∧ xs.size = k * 4 ∧ ys.size = 4 ∧ zs.size = cap * 4 - (k * 4 + 4) := by
 have hl : cs.toList.length = cap * 4 := by simpa using hs
 refine ⟨(cs.toList.take (k * 4)).toArray, ((cs.toList.drop (k * 4)).take 4).toArray, (cs.toList.drop (k * 4 + 4)).toArray, ?_, ?_, ?_, ?_⟩
 ·apply Array.toList_inj.1
  simp only [Array.toList_append]
  rw [show cs.toList.drop (k * 4 + 4) = (cs.toList.drop (k * 4)).drop 4 by rw [List.drop_drop], List.take_append_drop, List.take_append_drop]
 ·simp only [List.size_toArray, List.length_take, hl]; omega
 ·simp only [List.size_toArray, List.length_take, List.length_drop, hl]; omega
 ·simp only [List.size_toArray, List.length_drop, hl]
set_option maxRecDepth 100000 in
set_option maxHeartbeats 8000000 in
theorem overKids_of {N : Nat} (ih : OvC N) : OkC N := by
 intro l hc hm ks v cs base w hr hl hn
 have hkl := (OwnL.reads _ _ _ hl).len
 have hll : l.length ≤ 1048576 := Nat.le_trans (len_mszL l) hm
 have hlk := fun W => kds_len hr.slice W
 rw [hkl] at hlk
 have HR := Lib.hid hr
 have HIH := Lib.hid ih
 have HC := Lib.hid hc
 have HM := Lib.hid (fun x (hx : x ∈ l) => show msz x.2 ≤ 1048576 by have := mem_mszL hx; omega)
 have HNC := Lib.hid (List.nodup_append.1 hn).2.1
 have HAP := Lib.hid (fun i hi j hj => (List.nodup_append.1 hn).2.2 i hi j hj)
 have HL := Lib.hid hl
 clear ih hc hr hl hn hm
 go_enter Tryz.func39, Tryz.ntmps39
 go_wp2_with fail
 go_loopw [2] (fun i wr => ∃ (q : Nat) (c1 c2 : List Nat), q ≤ l.length ∧ i = .int .i64 (q : Int) ∧ cs = c1 ++ c2 ∧ OwnL base w (ks.drop q) (l.drop q) c2 ∧ Only (· ∈ c1) w wr) (fun i _ => l.length - (intOf i).toNat)
 case atStart => exact ⟨0, [], cs, by omega, rfl, rfl, HL.out, Only.refl _ _⟩
 case round =>
  obtain ⟨w1, rfl⟩ : ∃ y : World, y = wr := ⟨_, rfl⟩
  obtain ⟨q, c1, c2, hq, rfl, hcs, hl2, ho⟩ := hrel
  have HO := Lib.hid ho
  have HL2 := Lib.hid hl2
  clear ho hl2
  have HR1 := Lib.hid (own_stays HR.out HO.out (fun k hk e => HAP.out k hk k (by rw [hcs]; exact List.mem_append.2 (.inl e)) rfl))
  by_cases hlt : q < l.length
  ·have hlq : decide ((q : Int) < (l.length : Int)) = true := by simp; omega
   obtain ⟨z, hzk⟩ : ∃ z, l[q]? = some z := ⟨_, List.getElem?_eq_getElem hlt⟩
   obtain ⟨y, b2, c3, hyk, hyz, ht, hl3, rfl⟩ := OwnL.head HL2.out hzk
   obtain ⟨p, hadr, hle⟩ := kid_at HR1.out.slice q y hyk
   have HE := Lib.hid hle.all
   have hin := List.mem_of_getElem? hzk
   have HCZ := Lib.hid (HC.out z hin)
   have HMZ := Lib.hid (HM.out z hin)
   have HNB := Lib.hid (show b2.Nodup by have h := HNC.out; rw [hcs] at h; exact (List.nodup_append.1 (List.nodup_append.1 h).2.1).1)
   have HT1 := Lib.hid (OwnT.only HO.out z.2 y.2 b2 ht (fun k hk e => by have h := HNC.out; rw [hcs] at h; exact (List.nodup_append.1 h).2.2 k e k (List.mem_append.2 (.inl hk)) rfl))
   have HL3 := Lib.hid hl3
   clear hle hyk hyz ht hl3 hzk hin
   go_wp2_with (first | (with_reducible refine wpList_loadL HE.out rfl _ rfl rfl ?_))
   refine (overKid_any HIH.out y z HCZ.out HMZ.out b2 base w1 HT1.out HNB.out).mono ?_
   rintro e w2 ⟨⟨r, rfl⟩, ho2⟩
   have HO2 := Lib.hid (show Only (· ∈ c1 ++ b2) w w2 from (HO.out.mono (fun i _ e => List.mem_append.2 (.inl e))).then2 (ho2.mono (fun i _ e => List.mem_append.2 (.inr e))))
   clear ho2 hadr
   go_wp2_with fail
   go_roundw
   case rel => exact ⟨q + 1, c1 ++ b2, c3, by omega, by go_num, by rw [hcs, List.append_assoc], HL3.out, HO2.out⟩
   case measure => simp [intOf] <;> omega
  ·obtain rfl : q = l.length := by omega
   have hlq : decide (((l.length : Nat) : Int) < ((l.length : Nat) : Int)) = false := by simp
   have HOA := Lib.hid (show Only (· ∈ ownB v ++ cs) w w1 from HO.out.mono (fun i _ e => List.mem_append.2 (.inr (by rw [hcs]; exact List.mem_append.2 (.inl e)))))
   obtain ⟨_, ⟨rfl, _⟩ | ⟨g, cap, cur, hv, hg, hc9, hnc, hcm, hsz, _⟩⟩ := HR1.out
   ·go_wp2_with fail
    go_loopw [4] (fun i wr => i = .int .i64 0 ∧ wr = w1) (fun _ _ => 0)
    case atStart => exact ⟨rfl, rfl⟩
    case round =>
     obtain ⟨rfl, rfl⟩ := hrel
     go_wp2_with fail
     refine bodyPost_end (results_none rfl _ _ _) rfl ?_
     exact ⟨⟨_, rfl⟩, HOA.out⟩
   ·rw [hkl] at hv
    subst hv
    have hb0 : Blk w1 g 28 cur := hc9
    have hs0 : cur.size = cap * 4 := hsz
    clear hc9 hsz
    by_cases hcl : cap ≤ l.length + 12
    ·have hci : (cap : Int) ≤ (l.length : Int) + 12 := by omega
     go_wp2_with fail
     go_loopw [4] (fun i wr => ∃ (k : Nat) (cs0 : Array Value), k ≤ cap ∧ i = .int .i64 (k : Int) ∧ Blk wr g 28 cs0 ∧ cs0.size = cap * 4 ∧ Only (· ∈ ownB (.slice (some ⟨g, 0, none⟩) l.length cap) ++ cs) w wr) (fun i _ => cap - (intOf i).toNat)
     case atStart => exact ⟨0, cur, by omega, rfl, hb0, hs0, HOA.out⟩
     case round =>
      obtain ⟨wr1, rfl⟩ : ∃ y : World, y = wr := ⟨_, rfl⟩
      obtain ⟨k, cs0, hk, rfl, hb, hs, ho⟩ := hrel
      have HB := Lib.hid hb
      have HS := Lib.hid hs
      have HO := Lib.hid ho
      clear hb hs ho
      by_cases hlt : k < cap
      ·have hd1 : decide ((k : Int) < ((cap : Nat) : Int)) = true := by simp; omega
       have hia := overK_at g (cap) cap k hlt
       go_wp2_with fail
       refine (markKid_any 2 k wr1).mono ?_
       rintro e w2 ⟨rfl, hx⟩
       obtain ⟨xs, ys, zs, hcs0, hxs, hys, hzs⟩ := row_parts cs0 cap k HS.out (by omega)
       have HB2 := Lib.hid (show Blk w2 g 28 (xs ++ (ys ++ zs)) by rw [← hcs0]; exact HB.out.below hx)
       have HO2 := Lib.hid (HO.out.thenB hx)
       have HZ := Lib.hid (show (xs ++ (kdC (mkT 2 k, ndZ) ++ zs)).size = cap * 4 by simp only [Array.size_append, hxs, hzs]; show k * 4 + (4 + _) = _; omega)
       clear hx hcs0 hzs
       go_wp2_with (first | (refine Agg.wpList_putRow rfl rfl 28 _ _ rfl g (k * 4) xs ys zs (kdC (mkT 2 k, ndZ)) rfl rfl HB2.out hys hxs.symm (kd_info _) (kdC_one _) ?_; intro w3 hb3 ho3; have HB3 := Lib.hid hb3; have HO3 := Lib.hid (HO2.out.then2 (ho3.mono (fun i _ e => List.mem_append.2 (.inl (by subst e; simp [ownB, Value.ownBlock]))))); clear hb3 ho3))
       go_roundw
       case rel => exact ⟨k + 1, _, by omega, by go_num, HB3.out, HZ.out, HO3.out⟩
       case measure => simp [intOf] <;> omega
      ·obtain rfl : cap = k := by omega
       have hd2 : decide (((cap : Nat) : Int) < ((cap : Nat) : Int)) = false := by simp
       go_wp2_with fail
       refine bodyPost_end (results_none rfl _ _ _) rfl ?_
       exact ⟨⟨_, rfl⟩, HO.out⟩
    ·have hci : ¬ (cap : Int) ≤ (l.length : Int) + 12 := by omega
     go_wp2_with fail
     go_loopw [4] (fun i wr => ∃ (k : Nat) (cs0 : Array Value), k ≤ (l.length + 12) ∧ i = .int .i64 (k : Int) ∧ Blk wr g 28 cs0 ∧ cs0.size = cap * 4 ∧ Only (· ∈ ownB (.slice (some ⟨g, 0, none⟩) l.length cap) ++ cs) w wr) (fun i _ => (l.length + 12) - (intOf i).toNat)
     case atStart => exact ⟨0, cur, by omega, rfl, hb0, hs0, HOA.out⟩
     case round =>
      obtain ⟨wr1, rfl⟩ : ∃ y : World, y = wr := ⟨_, rfl⟩
      obtain ⟨k, cs0, hk, rfl, hb, hs, ho⟩ := hrel
      have HB := Lib.hid hb
      have HS := Lib.hid hs
      have HO := Lib.hid ho
      clear hb hs ho
      by_cases hlt : k < (l.length + 12)
      ·have hd1 : decide ((k : Int) < (((l.length + 12) : Nat) : Int)) = true := by simp; omega
       have hia := overK_at g ((l.length + 12)) cap k hlt
       go_wp2_with fail
       refine (markKid_any 2 k wr1).mono ?_
       rintro e w2 ⟨rfl, hx⟩
       obtain ⟨xs, ys, zs, hcs0, hxs, hys, hzs⟩ := row_parts cs0 cap k HS.out (by omega)
       have HB2 := Lib.hid (show Blk w2 g 28 (xs ++ (ys ++ zs)) by rw [← hcs0]; exact HB.out.below hx)
       have HO2 := Lib.hid (HO.out.thenB hx)
       have HZ := Lib.hid (show (xs ++ (kdC (mkT 2 k, ndZ) ++ zs)).size = cap * 4 by simp only [Array.size_append, hxs, hzs]; show k * 4 + (4 + _) = _; omega)
       clear hx hcs0 hzs
       go_wp2_with (first | (refine Agg.wpList_putRow rfl rfl 28 _ _ rfl g (k * 4) xs ys zs (kdC (mkT 2 k, ndZ)) rfl rfl HB2.out hys hxs.symm (kd_info _) (kdC_one _) ?_; intro w3 hb3 ho3; have HB3 := Lib.hid hb3; have HO3 := Lib.hid (HO2.out.then2 (ho3.mono (fun i _ e => List.mem_append.2 (.inl (by subst e; simp [ownB, Value.ownBlock]))))); clear hb3 ho3))
       go_roundw
       case rel => exact ⟨k + 1, _, by omega, by go_num, HB3.out, HZ.out, HO3.out⟩
       case measure => simp [intOf] <;> omega
      ·obtain rfl : (l.length + 12) = k := by omega
       have hd2 : decide ((((l.length + 12) : Nat) : Int) < (((l.length + 12) : Nat) : Int)) = false := by simp
       go_wp2_with fail
       refine bodyPost_end (results_none rfl _ _ _) rfl ?_
       exact ⟨⟨_, rfl⟩, HO.out⟩
theorem overNode_all : ∀ N, OvC N
 | 0 => fun t hc => by have := count_pos t; omega
 | N + 1 => overNode_of (overKids_of (overNode_all N))
theorem overNode_any (t : T) (hm : msz t ≤ 1048576) (x : NdV) (base : Nat) (w : World) (hb : base ≤ w.heap.size) (h : OwnN base w x t) :
  Calls Tryz.prog 17 #[.agg (ndC x)] w fun e w' => (∃ r, e = .returned r) ∧ Below base w w' := by
 obtain ⟨bs, h1, h2⟩ := h
 exact (overNode_all (count t) t (Nat.le_refl _) hm x bs base w h1 h2).mono fun e w' ⟨hr, ho⟩ => ⟨hr, ho.below (B := base) hb (fun i hi => (OwnT.range t x bs h1 i hi).1)⟩
end Go.Proofs.YtfiadgdinhmgbaaGreatDoor
/-! (of general use) spencekit.LentBytes. -/
namespace Go.Proofs.YtfiadgdinhmgbaaGreatDoor
open Go.RowKit Pl Go.Agg
def Lent {α : Type} (E : Elem Tryz.prog α) (M : List α) (base : Nat) (w : World) (u : Value) (l : List α) : Prop :=
 ∃ g cap, u = .slice (some ⟨g, 0, none⟩) l.length cap ∧ base ≤ g ∧ l.length + M.length ≤ cap ∧ SliceOf E w (.slice (some ⟨g, 0, none⟩) (l.length + M.length) cap) (l ++ M)
def LentO {α : Type} (E : Elem Tryz.prog α) (M : List α) (base : Nat) (w : World) (u : Value) (l : List α) : Prop :=
 ∃ g cap, u = .slice (some ⟨g, 0, none⟩) l.length cap ∧ Own E base w (.slice (some ⟨g, 0, none⟩) (l.length + M.length) cap) (l ++ M)
theorem LentO.lent {α : Type} {E : Elem Tryz.prog α} {M l : List α} {base : Nat} {w : World} {u : Value} (h : LentO E M base w u l) (_hM : 0 < M.length) : Lent E M base w u l := by
 obtain ⟨g, cap, rfl, ho⟩ := h
 have hs := ho.slice
 obtain ⟨_, ⟨h, _⟩ | ⟨g', cap', cur, hv, hgb, hcur, hle, _⟩⟩ := ho
 ·cases h
 ·injection hv with h1 h2 h3
  injection h1 with h1
  injection h1 with h1
  subst h1 h3
  exact ⟨g, cap, rfl, hgb, by rw [← List.length_append]; exact hle, hs⟩
theorem LentO.of_own {α : Type} {E : Elem Tryz.prog α} {M l : List α} {base : Nat} {w : World} {v : Value} (h : Own E base w v (l ++ M)) (hM : 0 < M.length) : ∃ g cap, v = .slice (some ⟨g, 0, none⟩) (l.length + M.length) cap ∧ l.length + M.length ≤ cap ∧ LentO E M base w (.slice (some ⟨g, 0, none⟩) l.length cap) l := by
 have ho := h
 obtain ⟨hfl, ⟨rfl, h0⟩ | ⟨g, cap, cur, rfl, hgb, hcur, hle, _⟩⟩ := h
 ·rw [List.length_append] at h0; omega
 ·rw [List.length_append] at hle ho ⊢
  exact ⟨g, cap, rfl, hle, g, cap, rfl, ho⟩
theorem Lent.of_own {α : Type} {E : Elem Tryz.prog α} {M l : List α} {base : Nat} {w : World} {v : Value} (h : Own E base w v (l ++ M)) (hM : 0 < M.length) : ∃ g cap, v = .slice (some ⟨g, 0, none⟩) (l.length + M.length) cap ∧ l.length + M.length ≤ cap ∧ Lent E M base w (.slice (some ⟨g, 0, none⟩) l.length cap) l := by
 have hs := h.slice
 obtain ⟨hfl, ⟨rfl, h0⟩ | ⟨g, cap, cur, rfl, hgb, hcur, hle, _⟩⟩ := h
 ·rw [List.length_append] at h0; omega
 ·rw [List.length_append] at hs hle ⊢
  exact ⟨g, cap, rfl, hle, g, cap, rfl, hgb, hle, hs⟩
theorem LentO.keepT {α : Type} {E : Elem Tryz.prog α} {M l : List α} {base : Nat} {w w' : World} {u : Value} (h : LentO E M base w u l) (hk : ∀ (g : Nat) (cur : Array Value) (fr : Nat × Nat), w.heap[g]? = some (Obj.cells cur E.ty fr) → w'.heap[g]? = some (Obj.cells cur E.ty fr)) : LentO E M base w' u l := by
 obtain ⟨g, cap, rfl, ho⟩ := h
 obtain ⟨hfl, h | ⟨g', cap', cur, hv, hb, hc, hr⟩⟩ := ho
 ·exact ⟨g, cap, rfl, hfl, .inl h⟩
 ·exact ⟨g, cap, rfl, hfl, .inr ⟨g', cap', cur, hv, hb, hk g' cur _ hc, hr⟩⟩
theorem LentO.below {α : Type} {E : Elem Tryz.prog α} {M l : List α} {base : Nat} {w w' : World} {u : Value} (h : LentO E M base w u l) (hb : Below w.heap.size w w') : LentO E M base w' u l := h.keepT fun _ _ _ hg => keep' hb hg
theorem LentO.lower {α : Type} {E : Elem Tryz.prog α} {M l : List α} {base b' : Nat} {w : World} {u : Value} (h : LentO E M base w u l) (hb : b' ≤ base) : LentO E M b' w u l := by
 obtain ⟨g, cap, rfl, ho⟩ := h
 exact ⟨g, cap, rfl, ho.lower hb⟩
theorem sliceOf_prefix {α : Type} {E : Elem Tryz.prog α} {w : World} {p : Option Addr} {cap : Nat} {l M : List α} (h : SliceOf E w (.slice p (l.length + M.length) cap) (l ++ M)) : SliceOf E w (.slice p l.length cap) l := by
 rcases h with ⟨q, c, hv, hl⟩ | ⟨q, c, hv, hp, hc⟩
 ·obtain ⟨rfl, _⟩ := List.append_eq_nil_iff.1 hl
  exact SliceOf.nil _ _ _
 ·simp only [Value.slice.injEq] at hv
  obtain ⟨rfl, _, rfl⟩ := hv
  refine .inr ⟨_, _, rfl, hp, fun j u hj => hc j u ?_⟩
  rw [Elem.flat_append, List.getElem?_append_left (List.getElem?_eq_some_iff.1 hj).1]
  exact hj
theorem LentO.form {α : Type} {E : Elem Tryz.prog α} {M l : List α} {base : Nat} {w : World} {u : Value} (h : LentO E M base w u l) : ∃ p n c, u = .slice p n c := by
 obtain ⟨g, cap, rfl, _⟩ := h
 exact ⟨_, _, _, rfl⟩
end Go.Proofs.YtfiadgdinhmgbaaGreatDoor
/-! spencekit.LentBytes. -/
namespace Go.Proofs.YtfiadgdinhmgbaaGreatDoor
open Go.RowKit Pl Go.Agg
set_option maxRecDepth 100000 in
set_option maxHeartbeats 1000000 in
theorem lentBytes_own (v : Value) (b : List UInt8) (hb : b.length ≤ 1048576) (w : World) (he : BytesAt w v b) :
  Calls Tryz.prog 10 #[v] w fun e w' => ∃ u, e = .returned u ∧ Below w.heap.size w w' ∧ LentO EB (marks 1 12) w.heap.size w' u b := by
 have hlv := fun W => bytes_len he W
 have HE := Lib.hid he
 clear he
 have hc : b.length + 12 ≤ 1099511627776 / 8 := by omega
 go_enter Tryz.func10, Tryz.ntmps10
 go_wp2_with (first | (refine Agg.wpList_make0 (base := w.heap.size) EB rfl .i64 .i64 _ (b.length + 12) rfl rfl hc (by decide) (Nat.le_refl _) ?_; intro v1 w1 ho1 hx1) | (at_builtin; refine Agg.walk_stop ?_))
 refine ⟨?_, trivial⟩
 have h63 : ([] : List UInt8).length + b.length ≤ 1099511627776 / 8 := by simp; omega
 refine Agg.wpList_appendS (E := EB) rfl _ _ rfl v rfl rfl b ho1 (SliceOf.below HE.out hx1) h63 (by decide) hx1.size ?_
 intro v2 w2 ho2 hp2 _
 rw [List.nil_append] at ho2
 have hx2 := hx1.trans (hp2.below w.heap.size (Nat.le_refl _) hx1.size)
 simp only [Act.put, List.setIfInBounds_toArray, List.set_cons_succ, List.set_cons_zero]
 clear ho1 hp2 hx1
 go_wp2_with fail
 go_loopw [3, 4] (fun out i wr => ∃ k : Nat, k ≤ 12 ∧ i = .int .i64 k ∧ Own EB w.heap.size wr out (b ++ marks 1 k) ∧ Below w.heap.size w wr) (fun _ i _ => 12 - (intOf i).toNat)
 case atStart => exact ⟨0, by omega, rfl, by simpa [marks] using ho2, hx2⟩
 case round =>
  clear ho2 hx2
  obtain ⟨w3, rfl⟩ : ∃ w3 : World, w3 = wr := ⟨_, rfl⟩
  obtain ⟨k, hk, rfl, ho, hw⟩ := hrel
  have HO := Lib.hid ho
  have HW := Lib.hid hw
  clear ho hw
  by_cases hlt : k < 12
  ·have h63 : (b ++ marks 1 k).length + 1 ≤ 1099511627776 / 8 := by rw [List.length_append, marks_length]; omega
   have hsz := HW.out.size
   go_wp2_with fail
   refine (markByte_any 1 k (by omega) (by omega) _).mono ?_
   rintro e w4 ⟨rfl, rfl⟩
   go_wp2_with (first | (refine wpList_push (E := EB) (base := w.heap.size) rfl rfl 19 rfl _ rfl _ rfl (mkB 1 k) rfl (fun _ => rfl) (by simp) HO.out h63 (by decide) hsz ?_; intro u5 v5 w5 ho5 hp5))
   rw [List.append_assoc, ← marks_succ] at ho5
   go_wp2_with fail
   go_roundw
   case rel => exact ⟨k + 1, by omega, by go_num, ho5, HW.out.trans (hp5.below w.heap.size (Nat.le_refl _) hsz)⟩
   case measure => simp [intOf]; omega
  ·obtain rfl : k = 12 := by omega
   obtain ⟨g, cap, rfl, hcap, hlent⟩ := LentO.of_own HO.out (by rw [marks_length]; omega)
   rw [marks_length] at hcap
   have hcap2 : b.length ≤ cap := by omega
   have HLT := Lib.hid hlent
   clear hlent
   go_wp2_with fail
   go_ret
   exact ⟨_, rfl, HW.out, HLT.out⟩
theorem lentBytes_any (v : Value) (b : List UInt8) (hb : b.length ≤ 1048576) (w : World) (he : BytesAt w v b) :
  Calls Tryz.prog 10 #[v] w fun e w' => ∃ u, e = .returned u ∧ Below w.heap.size w w' ∧ Lent EB (marks 1 12) w.heap.size w' u b :=
 (lentBytes_own v b hb w he).mono fun _ _ ⟨u, he, hb, hl⟩ => ⟨u, he, hb, hl.lent (by rw [marks_length]; omega)⟩
end Go.Proofs.YtfiadgdinhmgbaaGreatDoor
/-! A region that draws its order, in three parts: a quiet head in one class of worlds, a row of operations one behind the other, a quiet end in another class. Over any program. -/
namespace Go.Agg
variable {P : Program} {ops : Array Oper} {md : Region.Mode} {C : World → Prop}
def pre (N k : Nat) : Array Bool := (List.replicate k true ++ List.replicate (N - k) false).toArray
theorem pre_zero (N : Nat) : pre N 0 = Array.replicate N false := by simp [pre]
theorem pre_size {N k : Nat} (h : k ≤ N) : (pre N k).size = N := by simp [pre]; omega
theorem pre_get {N k : Nat} (h : k ≤ N) (t : Nat) (d : Bool) : (pre N k).getD t d = if t < k then true else if t < N then false else d := by
 unfold pre
 rw [Array.getD_eq_getD_getElem?]
 simp only [List.getElem?_toArray]
 by_cases h1 : t < k
 ·rw [List.getElem?_append_left (by simpa using h1), List.getElem?_replicate, if_pos h1, if_pos h1]; rfl
 ·rw [List.getElem?_append_right (by simpa using h1), List.getElem?_replicate, if_neg h1]
  by_cases h2 : t < N
  ·rw [if_pos h2, if_pos (by simp; omega)]; rfl
  ·rw [if_neg h2, if_neg (by simp; omega)]; rfl
theorem pre_set {N k : Nat} (h : k < N) : (pre N k).setIfInBounds k true = pre N (k + 1) := by
 apply Array.ext_getElem?
 intro t
 have e1 := pre_get (N := N) (k := k) (by omega)
 unfold pre
 simp only [List.setIfInBounds_toArray, List.getElem?_toArray]
 rw [show N - k = (N - (k + 1)) + 1 by omega, List.replicate_succ, List.set_append_right _ _ (by simp)]
 simp only [List.length_replicate, Nat.sub_self, List.set_cons_zero]
 rw [List.replicate_succ', List.append_assoc, List.singleton_append]
def treeB (md : Region.Mode) (ops : Array Oper) (n : Nat) : Bool :=
 (List.range ops.size).all fun t => decide (t ≤ n) || (List.range t).any fun j => decide (n ≤ j) && Region.waitsFor md ops t j
def closedB (md : Region.Mode) (ops : Array Oper) (k : Nat) : Bool :=
 (List.range k).all fun j => match ops[j]? with | some oj => oj.after.all fun e => !Region.binds md e || decide (e.on < k) | none => true
def headB (md : Region.Mode) (ops : Array Oper) : Nat → Nat → Array Bool → Bool
 | 0, _, _ => true
 | f + 1, k, listed => (Region.ready md ops listed).contains k && Region.free md ops listed k && headB md ops f (k + 1) (listed.setIfInBounds k true)
def cutB (md : Region.Mode) (ops : Array Oper) (k n : Nat) : Bool :=
 decide (n < ops.size) && Region.sinkB md ops n && treeB md ops n && closedB md ops k && headB md ops (n - k) k (pre ops.size k)
def rowB (md : Region.Mode) (ops : Array Oper) : Nat → Nat → Array Bool → Bool
 | 0, _, _ => true
 | g + 1, k, listed => decide (Region.ready md ops listed = [k]) && rowB md ops g (k + 1) (listed.setIfInBounds k true)
theorem waits {n : Nat} {listed : Array Bool} (hs : Region.sinkB md ops n = true) (hc : treeB md ops n = true) (inv : HeadInv md ops n listed) :
  ∀ (d i : Nat), n - i = d → i < n → listed.getD i true = false → ∀ t, n ≤ t → t ∉ Region.ready md ops listed := by
 intro d
 induction d using Nat.strongRecOn with
 | _ d ih =>
  intro i hd hi hun t ht hr
  obtain ⟨_, ot, hot, hall⟩ := mem_ready.1 hr
  have htlt : t < ops.size := (Array.getElem?_eq_some_iff.1 hot).1
  by_cases htn : t = n
  ·subst htn
   obtain ⟨j, hj, hj2⟩ := List.any_eq_true.1 (List.all_eq_true.1 hs i (List.mem_range.2 hi))
   simp only [Bool.and_eq_true, decide_eq_true_eq] at hj2
   obtain ⟨oj, hoj, e, he, hb, hon⟩ := Region.waitsFor_spec hj2.2
   have hjle : j ≤ t := by have := List.mem_range.1 hj; omega
   by_cases hjt : j = t
   ·subst hjt
    obtain rfl : oj = ot := Option.some.inj (hoj.symm.trans hot)
    have h2 := hall e he hb
    rw [hon, getD_both hun] at h2
    cases h2
   ·cases hl : listed.getD j false with
    | true =>
     have h2 := inv.closed j oj hoj hl e he hb
     rw [hon, getD_both hun] at h2
     cases h2
    | false => exact ih (t - j) (by omega) j rfl (by omega) (getD_in (by rw [inv.size]; omega) hl) t (Nat.le_refl _) hr
  ·have h1 := List.all_eq_true.1 hc t (List.mem_range.2 htlt)
   simp only [Bool.or_eq_true, decide_eq_true_eq] at h1
   rcases h1 with h1 | h1
   ·omega
   ·obtain ⟨j, hj, hj2⟩ := List.any_eq_true.1 h1
    simp only [Bool.and_eq_true, decide_eq_true_eq] at hj2
    obtain ⟨o', ho', e, he, hb, hon⟩ := Region.waitsFor_spec hj2.2
    obtain rfl : o' = ot := Option.some.inj (ho'.symm.trans hot)
    have h2 := hall e he hb
    have hjt := List.mem_range.1 hj
    rw [hon, getD_both (inv.tail j hj2.1 (by omega))] at h2
    cases h2
def anyHead (P : Program) (md : Region.Mode) (ops : Array Oper) (C : World → Prop) (n : Nat) (L : Array Bool → Act → Prop) : Nat → Array Bool → Act → Prop
 | 0, listed, a => L listed a
 | f + 1, listed, a => Region.ready md ops listed ≠ [] ∧ ∀ i ∈ Region.ready md ops listed, i < n ∧ qOp P ops C i (anyHead P md ops C n L f (listed.setIfInBounds i true)) a
theorem any_of_head {n g : Nat} {L : Array Bool → Act → Prop} {Q' : Exit → Act → World → Prop} (hL : ∀ listed a w, C w → L listed a → wpAny P md ops Q' g listed a w) :
  ∀ (f : Nat) (listed : Array Bool) (a : Act) (w : World), C w → anyHead P md ops C n L f listed a → wpAny P md ops Q' (f + g) listed a w
 | 0, listed, a, w, hw, h => by rw [Nat.zero_add]; exact hL _ _ _ hw h
 | f + 1, listed, a, w, hw, h => by
  rw [show f + 1 + g = (f + g) + 1 by omega]
  exact ⟨fun h0 => absurd h0 h.1, fun i hi => wpOp_of_qOp hw (fun a' w' hw' h' => any_of_head hL f _ a' w' hw' h') (h.2 i hi).2⟩
theorem head_first {n i : Nat} {oi : Oper} {v : Value} {L : Array Bool → Act → Prop} (hi : ops[i]? = some oi) (hsel : ∀ (j : Nat) (o : Oper) cs b, ops[j]? = some o → o.op ≠ .select cs b)
  (hs : Region.sinkB md ops n = true) (hc : treeB md ops n = true) (hin : i < n) (hdone : ∀ listed a, L listed a → ∀ j ∈ Region.ready md ops listed, n ≤ j) :
  ∀ (f : Nat) (listed : Array Bool) (a : Act), HeadInv md ops n listed →
   (∀ j oj, ops[j]? = some oj → j ≠ i → listed.getD j true = false → (∀ e ∈ oj.after, Region.binds md e = true → e.on ≠ i) → oi.apart ops oj = true) →
   i ∈ Region.ready md ops listed → YieldsIn P ops C oi v a →
   anyHead P md ops C n L f (listed.setIfInBounds i true) (a.put oi.dst v) → anyHead P md ops C n L (f + 1) listed a := by
 intro f
 induction f with
 | zero =>
  intro listed a inv _ hr hy H
  have hun := (mem_ready.1 hr).1
  refine ⟨fun h => (by rw [h] at hr; cases hr), fun j hj => ?_⟩
  have hjn : j < n := (Nat.lt_or_ge j n).resolve_right fun h => waits hs hc inv _ i rfl hin hun j h hj
  refine ⟨hjn, ?_⟩
  by_cases hji : j = i
  ·subst hji; exact hy.qOp hi H
  ·have := hdone _ _ H j (ready_mono hj hji)
   omega
 | succ f ih =>
  intro listed a inv hfree hr hy H
  have hun := (mem_ready.1 hr).1
  refine ⟨fun h => (by rw [h] at hr; cases hr), fun j hj => ?_⟩
  have hjn : j < n := (Nat.lt_or_ge j n).resolve_right fun h => waits hs hc inv _ i rfl hin hun j h hj
  refine ⟨hjn, ?_⟩
  by_cases hji : j = i
  ·subst hji; exact hy.qOp hi H
  ·have h1 := (H.2 j (ready_mono hj hji)).2
   obtain ⟨hjun, oj, hoj, hall⟩ := mem_ready.1 hj
   have hnot : ∀ e ∈ oj.after, Region.binds md e = true → e.on ≠ i := fun e he hb heq => by
    have h1 := hall e he hb
    rw [heq, getD_both hun] at h1
    cases h1
   have h2 := qOp_put hoj (hfree j oj hoj hji hjun hnot) (fun cs b => hsel i oi cs b hi) (fun cs b => hsel j oj cs b hoj) hy h1
   refine qOp_mono (fun a' h3 => ih (listed.setIfInBounds j true) a' (inv.set hj hjn) (fun k ok hk hki hun' hno => hfree k ok hk hki ?_ hno) (ready_mono hr (Ne.symm hji)) h3.1 ?_) h2
   ·by_cases hjk : j = k
    ·subst hjk; exact hjun
    ·rw [getD_set_ne true hjk] at hun'; exact hun'
   ·rw [Array.setIfInBounds_comm _ _ hji]
    exact h3.2
theorem head_lex {n : Nat} {Lq : Act → Prop} (hsel : Region.noSelect ops = true) (hs : Region.sinkB md ops n = true) (hc : treeB md ops n = true) (hn : n < ops.size) :
  ∀ (l : List Oper) (k : Nat) (a : Act), (∀ j, j < l.length → l[j]? = ops[k + j]?) → k + l.length = n → HeadInv md ops n (pre ops.size k) →
  headB md ops l.length k (pre ops.size k) = true → wpQuiet P ops C Lq l a →
  anyHead P md ops C n (fun listed' a' => listed' = pre ops.size n ∧ Lq a') l.length (pre ops.size k) a
 | [], k, a, _, hk, _, hB, h => by
  obtain rfl : k = n := by simpa using hk
  exact ⟨rfl, h⟩
 | o :: l, k, a, hl, hk, inv, hB, h => by
  have h0 : ops[k]? = some o := by simpa using (hl 0 (by simp)).symm
  simp only [List.length_cons, headB, Bool.and_eq_true] at hB
  obtain ⟨⟨hr, hf⟩, hB'⟩ := hB
  have hkn : k < n := by simp only [List.length_cons] at hk; omega
  have hr' : k ∈ Region.ready md ops (pre ops.size k) := by simpa using hr
  have hst : qOp P ops C k (wpQuiet P ops C Lq l) a := by unfold qOp; simp only [h0]; exact h
  obtain ⟨v, hy, hK⟩ := yieldsIn_of_qOp h0 hst
  have hset : (pre ops.size k).setIfInBounds k true = pre ops.size (k + 1) := pre_set (by omega)
  have inv' := inv.set hr' hkn
  rw [hset] at hB' inv'
  refine head_first h0 (Region.noSelect_spec hsel) hs hc hkn (fun listed' a' hL j hj => ?_) l.length _ a inv (Region.free_spec h0 hf) hr' hy ?_
  ·have h1 := (mem_ready.1 hj).1
   rw [hL.1, pre_get (by omega)] at h1
   by_cases hjn : j < n
   ·rw [if_pos hjn] at h1; cases h1
   ·omega
  ·rw [hset]
   exact head_lex hsel hs hc hn l (k + 1) _ (fun j hj => by have := hl (j + 1) (by simp; omega); simpa [Nat.add_assoc, Nat.add_comm 1 j] using this) (by simp only [List.length_cons] at hk; omega) inv' hB' hK
theorem seg_quiet {k n g : Nat} {Lq : Act → Prop} {Q' : Exit → Act → World → Prop} (hsel : Region.noSelect ops = true) (hB : cutB md ops k n = true)
  (hL : ∀ a w, C w → Lq a → wpAny P md ops Q' g (pre ops.size n) a w) (l : List Oper) (hl : ∀ j, j < l.length → l[j]? = ops[k + j]?) (hk : k + l.length = n) {a : Act} {w : World} (h : wpQuiet P ops C Lq l a) (hw : C w) :
  wpAny P md ops Q' (l.length + g) (pre ops.size k) a w := by
 simp only [cutB, Bool.and_eq_true, decide_eq_true_eq] at hB
 obtain ⟨⟨⟨⟨hn, hs⟩, hc⟩, hcl⟩, hh⟩ := hB
 have hkN : k ≤ ops.size := by omega
 have inv : HeadInv md ops n (pre ops.size k) := by
  refine ⟨pre_size hkN, fun j oj hoj hj e he hb => ?_, fun t ht ht' => ?_⟩
  ·rw [pre_get hkN] at hj ⊢
   have hjk : j < k := by
    by_cases h : j < k
    ·exact h
    ·rw [if_neg h] at hj; split at hj <;> cases hj
   have h1 := List.all_eq_true.1 hcl j (List.mem_range.2 hjk)
   rw [hoj] at h1
   have h2 := Array.all_eq_true_iff_forall_mem.1 h1 e he
   simp only [hb, Bool.not_true, Bool.false_or, decide_eq_true_eq] at h2
   rw [if_pos h2]
  ·rw [pre_get hkN, if_neg (by omega), if_pos ht']
 rw [show n - k = l.length by omega] at hh
 exact any_of_head (fun listed a w hw hL' => hL'.1 ▸ hL a w hw hL'.2) _ _ _ _ hw (head_lex hsel hs hc hn l k a hl hk inv hh h)
def thenK (Q : Exit → Act → World → Prop) (K : Act → World → Prop) : Exit → Act → World → Prop
 | .normal, a, w => K a w
 | e, a, w => Q e a w
theorem wpOp_thenK {Q : Exit → Act → World → Prop} {K K' : Act → World → Prop} {i : Nat} {a : Act} {w : World} (h : wpOp P ops (thenK Q K) i K' a w) : wpOp P ops Q i K' a w := by
 unfold wpOp at *
 split
 ·rename_i ho; simpa [ho] using h
 ·rename_i o ho
  simp only [ho] at h
  split
  ·rename_i hw
   simp only [hw, if_true] at h
   rcases h with h | ⟨h1, a', w', h2⟩
   ·refine .inl ?_
    unfold Oper.wp at *
    generalize (execOp a.eval o).run P w = r at *
    cases r with
    | ok n w' =>
     cases n <;> simp only [Oper.upon] at h ⊢ <;>
      first
       | exact h
       | exact Calls.mono h (fun e w'' he => by
         cases e <;> first | exact he | (obtain ⟨a', w', h2⟩ := he; exact ⟨a', w', h2⟩))
    | halt x w' => cases x <;> simp only [Oper.upon] at h ⊢ <;> exact h
   ·exact .inr ⟨h1, a', w', h2⟩
  ·rename_i hw; simpa [hw] using h
theorem seg_row {g : Nat} {Q' : Exit → Act → World → Prop} {K : Act → World → Prop} {n : Nat} (hL : ∀ a w, K a w → wpAny P md ops Q' g (pre ops.size n) a w) : ∀ (l : List Oper) (k : Nat) (a : Act) (w : World),
  (∀ j, j < l.length → l[j]? = ops[k + j]?) → k + l.length = n → n ≤ ops.size → rowB md ops l.length k (pre ops.size k) = true → wpList P ops (thenK Q' K) l a w → wpAny P md ops Q' (l.length + g) (pre ops.size k) a w
 | [], k, a, w, _, hk, _, _, h => by
  obtain rfl : k = n := by simpa using hk
  rw [show ([] : List Oper).length + g = g by simp]
  exact hL _ _ h
 | o :: l, k, a, w, hl, hk, hn, hB, h => by
  have h0 : ops[k]? = some o := by simpa using (hl 0 (by simp)).symm
  simp only [List.length_cons, rowB, Bool.and_eq_true, decide_eq_true_eq] at hB hk
  rw [show (o :: l).length + g = (l.length + g) + 1 by simp; omega]
  refine ⟨fun h1 => (by rw [hB.1] at h1; cases h1), fun i hi => ?_⟩
  rw [hB.1] at hi
  obtain rfl : i = k := by simpa using hi
  have hw : wpOp P ops (thenK Q' K) i (wpList P ops (thenK Q' K) l) a w := by unfold wpOp; simp only [h0]; exact h
  have hset : (pre ops.size i).setIfInBounds i true = pre ops.size (i + 1) := pre_set (by omega)
  have hB2 := hB.2
  rw [hset] at hB2
  refine wpOp_mono (fun a' w' h' => ?_) (wpOp_thenK hw)
  rw [hset]
  exact seg_row hL l (i + 1) a' w' (fun j hj => by have := hl (j + 1) (by simp; omega); simpa [Nat.add_assoc, Nat.add_comm 1 j] using this) (by omega) hn hB2 h'
def midB (md : Region.Mode) (ops : Array Oper) (n m : Nat) : Bool :=
 Region.noSelect ops && decide (n < m) && decide (m < ops.size) && cutB md ops 0 n && rowB md ops (m - n) n (pre ops.size n) && Region.lexFrom md ops (ops.size - m) m (pre ops.size m)
theorem wp_region_mid {id : Nat} {Q : Exit → Act → World → Prop} {a : Act} {w : World} {l : List Oper} (n m : Nat) (C : World → Prop) (hm : P.follows .mixedOrders = true) (hB : midB .any l.toArray n m = true) (hC : C w.drew)
  (h : wpQuiet P l.toArray C (fun a' => ∀ w', C w' → wpList P l.toArray (thenK Q fun a2 w2 => ∃ C2 : World → Prop, C2 w2 ∧ wpQuiet P l.toArray C2 (fun a3 => ∀ w3, C2 w3 → Q .normal a3 w3) (l.drop m) a2) ((l.drop n).take (m - n)) a' w') (l.take n) a) :
  (Code.region id l.toArray true).wp P Q a w := by
 simp only [midB, Bool.and_eq_true, decide_eq_true_eq] at hB
 obtain ⟨⟨⟨⟨⟨hsel, hnm⟩, hms⟩, hc⟩, hr⟩, hx⟩ := hB
 have hms' : m < l.length := by simpa using hms
 refine wp_region_any hm ?_
 have hend : ∀ a2 w2, (∃ C2 : World → Prop, C2 w2 ∧ wpQuiet P l.toArray C2 (fun a3 => ∀ w3, C2 w3 → Q .normal a3 w3) (l.drop m) a2) → wpAny P .any l.toArray Q (l.length - m) (pre l.toArray.size m) a2 w2 := by
  rintro a2 w2 ⟨C2, h2, hq⟩
  have h3 := wpAnyQ_lex (C := C2) (md := .any) hsel (l.drop m) m (pre l.toArray.size m) a2 (fun j => by simp [List.getElem?_drop]) (by simpa using hx) hq
  have := wpAny_of_quiet (Q' := Q) (Q := fun a3 => ∀ w3, C2 w3 → Q .normal a3 w3) (fun _ w' hw' h => h w' hw') _ _ _ _ h2 h3
  simpa using this
 have hrow : ∀ a' w', C w' → (∀ w', C w' → wpList P l.toArray (thenK Q fun a2 w2 => ∃ C2 : World → Prop, C2 w2 ∧ wpQuiet P l.toArray C2 (fun a3 => ∀ w3, C2 w3 → Q .normal a3 w3) (l.drop m) a2) ((l.drop n).take (m - n)) a' w') →
   wpAny P .any l.toArray Q (l.length - n) (pre l.toArray.size n) a' w' := by
  intro a' w' hw' h'
  have hlen : ((l.drop n).take (m - n)).length = m - n := by simp; omega
  have := seg_row (md := .any) (n := m) hend ((l.drop n).take (m - n)) n a' w' (fun j hj => by
   rw [hlen] at hj
   simp [hj]) (by rw [hlen]; omega) (by simp; omega) (by rw [hlen]; exact hr) (h' w' hw')
  rw [hlen, show m - n + (l.length - m) = l.length - n by omega] at this
  exact this
 have hlen : (l.take n).length = n := by simp; omega
 have := seg_quiet (md := .any) (k := 0) (n := n) hsel hc hrow (l.take n) (fun j hj => by
  rw [hlen] at hj
  simp [hj]) (by rw [hlen]; omega) h hC
 rw [hlen, show n + (l.length - n) = l.length by omega, pre_zero] at this
 exact this
def rowEndB (md : Region.Mode) (ops : Array Oper) (n : Nat) : Bool :=
 Region.noSelect ops && decide (n < ops.size) && cutB md ops 0 n && rowB md ops (ops.size - n) n (pre ops.size n) && (Region.ready md ops (pre ops.size ops.size)).isEmpty
theorem wp_region_row {id : Nat} {Q : Exit → Act → World → Prop} {a : Act} {w : World} {l : List Oper} (n : Nat) (C : World → Prop) (hm : P.follows .mixedOrders = true) (hB : rowEndB .any l.toArray n = true) (hC : C w.drew)
  (h : wpQuiet P l.toArray C (fun a' => ∀ w', C w' → wpList P l.toArray Q (l.drop n) a' w') (l.take n) a) : (Code.region id l.toArray true).wp P Q a w := by
 simp only [rowEndB, Bool.and_eq_true, decide_eq_true_eq, List.isEmpty_iff] at hB
 obtain ⟨⟨⟨⟨hsel, hn⟩, hc⟩, hr⟩, hx⟩ := hB
 have hn' : n < l.length := by simpa using hn
 refine wp_region_any hm ?_
 have hdl : (l.drop n).length = l.length - n := by simp
 have hrow : ∀ a' w', C w' → (∀ w', C w' → wpList P l.toArray Q (l.drop n) a' w') → wpAny P .any l.toArray Q (l.length - n) (pre l.toArray.size n) a' w' := by
  intro a' w' hw' h'
  have hQ : thenK Q (Q .normal) = Q := by funext e; cases e <;> rfl
  have := seg_row (md := .any) (n := l.length) (g := 0) (Q' := Q) (K := Q .normal) (fun a w hK => ⟨by rw [show l.length = l.toArray.size by simp]; exact hx, hK⟩) (l.drop n) n a' w' (fun j _ => by simp [List.getElem?_drop]) (by rw [hdl]; omega) (by simp) (by rw [hdl]; simpa using hr) (by rw [hQ]; exact h' w' hw')
  rwa [hdl, Nat.add_zero] at this
 have hlen : (l.take n).length = n := by simp; omega
 have := seg_quiet (md := .any) (k := 0) (n := n) hsel hc hrow (l.take n) (fun j hj => by
  rw [hlen] at hj
  simp [hj]) (by rw [hlen]; omega) h hC
 rw [hlen, show n + (l.length - n) = l.length by omega, pre_zero] at this
 exact this
end Go.Agg
