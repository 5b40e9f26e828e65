/- spenceref08.place: where a name stands. -/
import Derived.Test.YtfiadgdinhmgbaaGreatDoorEAW
import Derived.Test.YtfiadgdinhmgbaaGreatDoorEAR
namespace Go.Tr
theorem place_hit {l : List K} {q : Nat} {z : K} (h : l[q]? = some z) {nm : List UInt8} (hp : place (l.drop q) nm = place l nm) (e : z.1 = nm) : place l nm = some z.2 := by
 obtain ⟨hlt, he⟩ := List.getElem?_eq_some_iff.1 h
 rw [← hp, List.drop_eq_getElem_cons hlt, he]
 obtain ⟨n, t⟩ := z
 have e : n = nm := e
 simp [place, e]
theorem place_go {l : List K} {q : Nat} {z : K} (h : l[q]? = some z) {nm : List UInt8} (hp : place (l.drop q) nm = place l nm) (e : ¬ z.1 = nm) : place (l.drop (q + 1)) nm = place l nm := by
 obtain ⟨hlt, he⟩ := List.getElem?_eq_some_iff.1 h
 rw [← hp, List.drop_eq_getElem_cons hlt, he]
 obtain ⟨n, t⟩ := z
 have e : ¬ n = nm := e
 simp [place, e]
def plI : List K → List UInt8 → Nat → Int
 | [], _, _ => -1
 | x :: l, nm, q => if x.1 = nm then (q : Int) else plI l nm (q + 1)
theorem plI_hit {l : List K} {q : Nat} {z : K} (h : l[q]? = some z) {nm : List UInt8} (e : z.1 = nm) : plI (l.drop q) nm q = (q : Int) := by
 obtain ⟨hlt, he⟩ := List.getElem?_eq_some_iff.1 h
 rw [List.drop_eq_getElem_cons hlt, he, plI, if_pos e]
theorem plI_go {l : List K} {q : Nat} {z : K} (h : l[q]? = some z) {nm : List UInt8} (e : ¬ z.1 = nm) : plI (l.drop q) nm q = plI (l.drop (q + 1)) nm (q + 1) := by
 obtain ⟨hlt, he⟩ := List.getElem?_eq_some_iff.1 h
 rw [List.drop_eq_getElem_cons hlt, he, plI, if_neg e]
def PlaceIs (l : List K) (nm : List UInt8) (i : Int) : Prop := (∃ (q : Nat) (z : K), i = (q : Int) ∧ l[q]? = some z ∧ z.1 = nm ∧ place l nm = some z.2) ∨ (i = -1 ∧ place l nm = none)
end Go.Tr
namespace Go.Proofs.YtfiadgdinhmgbaaGreatDoor
open Go.RowKit Pl Go.Agg Go.Tr
set_option maxRecDepth 100000 in
set_option maxHeartbeats 8000000 in
theorem rplace_any (v : Value) (t : T) (nm : List UInt8) (hl : t.kids.length ≤ 1048576) (w : World) (hv : NodeAt w v t) :
  Calls Tryz.prog 58 #[v, .string ⟨nm.toArray⟩] w fun e w' => ∃ i : Int, e = .returned (.int .i64 i) ∧ (i = plI t.kids nm 0 ∧ PlaceIs t.kids nm i) ∧ Below w.heap.size w w' := by
 obtain ⟨x, rfl, hx⟩ := hv
 obtain ⟨k, b, l⟩ := t
 have hl : l.length ≤ 1048576 := hl
 show Calls _ _ _ w fun e w' => ∃ i : Int, e = .returned (.int .i64 i) ∧ (i = plI l nm 0 ∧ PlaceIs l nm i) ∧ Below w.heap.size w w'
 obtain ⟨hk, hby, ks, hsl, hkv⟩ := hx
 have hkl := hkv.len
 have hlk := fun W => kds_len hsl W
 rw [hkl] at hlk
 have HSL := Lib.hid hsl
 have HN := Lib.hid hkv.nms
 clear hby hsl hkv hkl hk
 go_enter Tryz.func58, Tryz.ntmps58
 go_wp2_with (first | (refine wpList_box rfl 26 _ rfl (ndC x) rfl ?_; intro g1 w1 hb hx hg; have HB1 := Lib.hid hb; have HX1 := Lib.hid hx; clear hb hx hg))
 go_loopw [5] (fun i wr => ∃ q : Nat, q ≤ l.length ∧ i = .int .i64 (q : Int) ∧ (place (l.drop q) nm = place l nm ∧ plI (l.drop q) nm q = plI l nm 0) ∧ Blk wr g1 26 (ndC x) ∧ Below w.heap.size w wr) (fun i _ => l.length - (intOf i).toNat)
 case atStart => exact ⟨0, by omega, rfl, ⟨rfl, rfl⟩, HB1.out, HX1.out⟩
 case round =>
  obtain ⟨w2, rfl⟩ : ∃ y : World, y = wr := ⟨_, rfl⟩
  obtain ⟨q, hq, rfl, hp, hb, hx⟩ := hrel
  have HP := Lib.hid hp.1
  have HI := Lib.hid hp.2
  have HB := Lib.hid hb
  have HX := Lib.hid hx
  have HSX := Lib.hid (HSL.out.below hx)
  clear hp hb hx
  by_cases hlt : q < l.length
  ·have hd : decide ((q : Int) < (l.length : Int)) = true := by simp; omega
   obtain ⟨z, hzk⟩ : ∃ z, l[q]? = some z := ⟨_, List.getElem?_eq_getElem hlt⟩
   obtain ⟨y, hyk, hyz⟩ := HN.out.at_ q z hzk
   obtain ⟨pp, hadr, hle⟩ := kid_at HSX.out q y hyk
   have HY := Lib.hid hle.name
   have HZ := Lib.hid hzk
   have HYZ := Lib.hid hyz
   clear hle hyz hyk hzk
   by_cases hn : z.1 = nm
   ·have HE := Lib.hid (show decide (y.1 = nm) = true by rw [HYZ.out]; exact decide_eq_true hn)
    have HR := Lib.hid (place_hit HZ.out HP.out hn)
    have HNM := Lib.hid hn
    clear hn
    go_wp2_with (first | (with_reducible refine wpList_loadL (NdL.of_blk HB.out).kids rfl _ rfl rfl ?_) | (with_reducible refine wpList_loadL HY.out rfl _ rfl rfl ?_) | (with_reducible refine wpList_eqlS rfl rfl rfl rfl true HE.out ?_))
    go_ret
    exact ⟨_, rfl, ⟨by rw [← HI.out, plI_hit HZ.out HNM.out], .inl ⟨q, z, rfl, HZ.out, HNM.out, HR.out⟩⟩, HX.out⟩
   ·have HE := Lib.hid (show decide (y.1 = nm) = false by rw [HYZ.out]; exact decide_eq_false hn)
    have HR := Lib.hid (show place (l.drop (q + 1)) nm = place l nm ∧ plI (l.drop (q + 1)) nm (q + 1) = plI l nm 0 from ⟨place_go HZ.out HP.out hn, by rw [← HI.out, plI_go HZ.out hn]⟩)
    clear hn
    go_wp2_with (first | (with_reducible refine wpList_loadL (NdL.of_blk HB.out).kids rfl _ rfl rfl ?_) | (with_reducible refine wpList_loadL HY.out rfl _ rfl rfl ?_) | (with_reducible refine wpList_eqlS rfl rfl rfl rfl false HE.out ?_))
    go_roundw
    case rel => exact ⟨q + 1, by omega, by go_num, HR.out, HB.out, HX.out⟩
    case measure => simp [intOf]; omega
  ·obtain rfl : q = l.length := by omega
   have hd9 : decide (((l.length : Nat) : Int) < ((l.length : Nat) : Int)) = false := by simp
   have HR := Lib.hid (show place l nm = none by rw [← HP.out, List.drop_length]; rfl)
   go_wp2_with (first | (with_reducible refine wpList_loadL (NdL.of_blk HB.out).kids rfl _ rfl rfl ?_))
   go_ret
   exact ⟨_, rfl, ⟨by rw [← HI.out, List.drop_length]; rfl, .inr ⟨rfl, HR.out⟩⟩, HX.out⟩
end Go.Proofs.YtfiadgdinhmgbaaGreatDoor
