/- spenceref09.Pack, Size. (Several texts in one.) -/
import Derived.Test.YtfiadgdinhmgbaaGreatDoorEAT
import Derived.Test.YtfiadgdinhmgbaaGreatDoorEBG
import Derived.Test.YtfiadgdinhmgbaaGreatDoorEAH
import Derived.Test.YtfiadgdinhmgbaaGreatDoorEAK
import Derived.Test.YtfiadgdinhmgbaaGreatDoorEAP
import Derived.Test.YtfiadgdinhmgbaaGreatDoorEBH
import Derived.Test.YtfiadgdinhmgbaaGreatDoorEAZ
import Derived.Test.YtfiadgdinhmgbaaGreatDoorEBD
import Derived.Test.YtfiadgdinhmgbaaGreatDoorEAQ
/-! spencelaw09.size: how great a tree is, up to a bound. -/
namespace Go.Tr
mutual
def szT : T → Nat → Nat
 | .mk _ b l, left => szL l left (1 + b.length / 20)
def szL : List K → Nat → Nat → Nat
 | [], _, all => all
 | (n, t) :: l, left, all => if all ≤ left then szL l left (all + 1 + n.length / 20 + szT t (left - all)) else all
end
mutual
theorem szT_le : ∀ (t : T) (left : Nat), szT t left ≤ msz t
 | .mk k b l, left => by
  have := szL_le l left (1 + b.length / 20)
  simp only [szT, msz]; omega
theorem szL_le : ∀ (l : List K) (left all : Nat), szL l left all ≤ all + mszL l
 | [], _, _ => by simp [szL, mszL]
 | (n, t) :: l, left, all => by
  simp only [szL, mszL]
  split
  ·have h1 := szL_le l left (all + 1 + n.length / 20 + szT t (left - all))
   have h2 := szT_le t (left - all)
   omega
  ·omega
end
theorem szL_step {l : List K} {q : Nat} {z : K} (h : l[q]? = some z) {left all : Nat} (hle : all ≤ left) : szL (l.drop q) left all = szL (l.drop (q + 1)) left (all + 1 + z.1.length / 20 + szT z.2 (left - all)) := by
 obtain ⟨hlt, he⟩ := List.getElem?_eq_some_iff.1 h
 rw [List.drop_eq_getElem_cons hlt, he]
 obtain ⟨n, t⟩ := z
 simp [szL, hle]
theorem szL_stop {l : List K} {q left all : Nat} (hle : ¬ all ≤ left) : szL (l.drop q) left all = all := by
 cases l.drop q with
 | nil => rfl
 | cons x m => obtain ⟨n, t⟩ := x; simp [szL, hle]
end Go.Tr
namespace Go.Proofs.YtfiadgdinhmgbaaGreatDoor
open Go.RowKit Pl Go.Agg Go.Tr
set_option maxRecDepth 100000 in
set_option maxHeartbeats 8000000 in
theorem size_any : ∀ (N : Nat) (t : T) (_ : count t ≤ N) (_ : msz t ≤ 1048576) (left : Nat) (_ : left ≤ 1500) (v : Value) (w : World) (_ : NodeAt w v t),
  Calls Tryz.prog 20 #[v, .int .i64 (left : Int)] w fun e w' => e = .returned (.int .i64 (szT t left : Int)) ∧ Below w.heap.size w w' := by
 intro N
 induction N with
 | zero => intro t h; have := count_pos t; omega
 | succ N ih =>
 intro t hc hm left hl v w hv
 obtain ⟨x, rfl, hx⟩ := hv
 obtain ⟨k, b, l⟩ := t
 obtain ⟨hk, hby, ks, hsl, hkv⟩ := hx
 have hkl := hkv.len
 have hlb := fun W => bytes_len hby W
 have hlk := fun W => kds_len hsl W
 rw [hkl] at hlk
 have hbm := bytes_msz k b l
 have hkm := kids_msz k b l
 have hlm : mszL l ≤ 1048576 := by simp only [msz] at hm; omega
 have hb1 : b.length ≤ 1048576 := by omega
 have hl1 : l.length ≤ 1048576 := by omega
 have HIH := Lib.hid ih
 have HC := Lib.hid hc
 have HM := Lib.hid hm
 have HKV := Lib.hid hkv
 have HSL := Lib.hid hsl
 clear ih hc hm hbm hkm hby hsl hkv hk
 go_enter Tryz.func20, Tryz.ntmps20
 go_wp2_with (first | (refine wpList_box rfl 26 _ rfl (ndC x) rfl ?_; intro g2 w1 hb hx hg; have HB1 := Lib.hid hb; have HX1 := Lib.hid hx; clear hb hx hg) | (with_reducible refine wpList_loadL (NdL.of_blk HB1.out).bytes rfl _ rfl rfl ?_))
 go_loopw [5, 6] (fun a i wr => ∃ (q al : Nat), q ≤ l.length ∧ a = .int .i64 (al : Int) ∧ i = .int .i64 (q : Int) ∧ al ≤ 1048576 + 1048576 ∧ szT (.mk k b l) left = szL (l.drop q) left al ∧ Blk wr g2 26 (ndC x) ∧ Below w.heap.size w wr) (fun _ i _ => l.length - (intOf i).toNat)
 case atStart => exact ⟨0, 1 + b.length / 20, by omega, by first | rfl | (go_num), rfl, by omega, rfl, HB1.out, HX1.out⟩
 case round =>
  obtain ⟨w2, rfl⟩ : ∃ y : World, y = wr := ⟨_, rfl⟩
  obtain ⟨q, al, hq, rfl, rfl, hal, hsz, hb, hx⟩ := hrel
  have HSZ := Lib.hid hsz
  have HB := Lib.hid hb
  have HX := Lib.hid hx
  clear hsz hb hx
  by_cases hlt : q < l.length
  ·have hlq : decide ((q : Int) < (l.length : Int)) = true := by simp; omega
   by_cases hle : al ≤ left
   ·have hle2 : decide ((al : Int) ≤ (left : Int)) = true := by simp; omega
    obtain ⟨z, hzk⟩ : ∃ z, l[q]? = some z := ⟨_, List.getElem?_eq_getElem hlt⟩
    obtain ⟨y, hyk, hyz, hyn⟩ := HKV.out.at_ q z hzk
    obtain ⟨p, hadr, hle9⟩ := kid_at (HSL.out.below HX.out) q y hyk
    have HNM := Lib.hid hle9.name
    have HND := Lib.hid hle9.node.all
    have hmz := mem_mszL (List.mem_of_getElem? hzk)
    have hyl : y.1.length ≤ 1048576 := by rw [hyz]; omega
    have hsm : szT z.2 (left - al) ≤ 1048576 := Nat.le_trans (szT_le _ _) (by omega)
    have HST := Lib.hid (szL_step hzk hle)
    have hcz : count z.2 ≤ N := by
     have h1 := countL_mem (List.mem_of_getElem? hzk)
     have h2 := HC.out
     simp only [count] at h2
     omega
    have HYZ := Lib.hid hyz
    obtain ⟨m, hmm⟩ : ∃ m, szT z.2 (left - al) = m := ⟨_, rfl⟩
    have HCALL := Lib.hid (fun zz : Later w2 => (show Calls Tryz.prog 20 #[.agg (ndC y.2), .int .i64 ((left : Int) - (al : Int))] zz.w fun e w' => e = .returned (.int .i64 (m : Int)) ∧ Below zz.w.heap.size zz.w w' by
     have h := HIH.out z.2 hcz (by omega) (left - al) (by omega) (.agg (ndC y.2)) zz.w ⟨y.2, rfl, NodeV.below (belowThen HX.out (Nat.le_refl _) zz.h) _ _ hyn⟩
     rw [hmm, show ((left - al : Nat) : Int) = (left : Int) - (al : Int) by omega] at h
     exact h))
    rw [hmm] at hsm HST
    clear hzk hyk hyz hyn hle9 hmz hcz hmm
    go_wp2_with (first | (with_reducible refine wpList_loadL (NdL.of_blk HB.out).kids rfl _ rfl rfl ?_))
    try simp only [Act.put, List.setIfInBounds_toArray, List.set_cons_succ, List.set_cons_zero]
    refine wp_region_later_lit (by kernel_rfl) (by kernel_rfl) ?_
    repeat (first | go_big_quiet_skip | ((first | (with_reducible refine wpQuiet_loadL (NdL.of_blk HB.out).kids rfl _ rfl rfl ?_) | (with_reducible refine wpQuiet_loadL HNM.out rfl _ rfl rfl ?_) | (with_reducible refine wpQuiet_loadL HND.out rfl _ rfl rfl ?_)); simp only [Act.put, List.setIfInBounds_toArray, List.set_cons_succ, List.set_cons_zero]) | go_big_quiet_step (first | (go_at_call 20; first | (with_reducible exact Calls.later (HCALL.out _)))))
    refine wpQuiet_nil ?_
    intro _ hw'
    obtain ⟨x4, rfl⟩ := hw'
    have HX4 := Lib.hid (belowThen HX.out (Nat.le_refl _) x4.h)
    have HB4 := Lib.hid (HB.out.below x4.h)
    go_wp2_with fail
    go_roundw
    case rel => exact ⟨q + 1, al + 1 + z.1.length / 20 + m, by omega, by rw [HYZ.out]; exact congrArg (Value.int .i64) (by omega), by go_num, by have h := HYZ.out; rw [h] at hyl; omega, by rw [HSZ.out, HST.out], HB4.out, HX4.out⟩
    case measure => simp [intOf]; omega
   ·have hle2 : decide ((al : Int) ≤ (left : Int)) = false := by simp; omega
    have HR := Lib.hid (show szT (.mk k b l) left = al by rw [HSZ.out, szL_stop hle])
    go_wp2_with (first | (with_reducible refine wpList_loadL (NdL.of_blk HB.out).kids rfl _ rfl rfl ?_))
    go_ret
    exact ⟨by rw [HR.out]; rfl, HX.out⟩
  ·obtain rfl : q = l.length := by omega
   have hlq : decide (((l.length : Nat) : Int) < ((l.length : Nat) : Int)) = false := by simp
   have HR := Lib.hid (show szT (.mk k b l) left = al by rw [HSZ.out, List.drop_length]; rfl)
   go_wp2_with (first | (with_reducible refine wpList_loadL (NdL.of_blk HB.out).kids rfl _ rfl rfl ?_))
   go_ret
   exact ⟨by rw [HR.out]; rfl, HX.out⟩
end Go.Proofs.YtfiadgdinhmgbaaGreatDoor
/-! Marks of any elements; rows while they are marked. -/
namespace Go.Agg
open Go.RowKit
section
variable {α : Type} (mk : Nat → Nat → α)
def marksG (k n : Nat) : List α := (List.range n).map (mk k)
theorem marksG_length (k n : Nat) : (marksG mk k n).length = n := by simp [marksG]
theorem marksG_succ (k n : Nat) : marksG mk k (n + 1) = marksG mk k n ++ [mk k n] := by simp [marksG, List.range_succ]
theorem marksG_get (k n i : Nat) (h : i < n) : (marksG mk k n)[i]? = some (mk k i) := by simp [marksG, h]
theorem marksG_set (k i : Nat) (l : List α) (hi : i < l.length) : (marksG mk k i ++ l.drop i).set i (mk k i) = marksG mk k (i + 1) ++ l.drop (i + 1) := by
 rw [List.set_append_right _ _ (by rw [marksG_length]; exact Nat.le_refl _), marksG_length, Nat.sub_self, List.drop_eq_getElem_cons hi, List.set_cons_zero, marksG_succ, List.append_assoc, List.singleton_append]
def wroteG (f : Nat → List α) (k i : Nat) : Nat → List α := fun j => if j = k then marksG mk k i ++ (f k).drop i else if j < k then marksG mk j (f j).length else f j
def wroteToG (f : Nat → List α) (k : Nat) : Nat → List α := fun j => if j < k then marksG mk j (f j).length else f j
theorem wroteG_zero (f : Nat → List α) (k : Nat) : wroteG mk f k 0 = wroteToG mk f k := by
 funext j
 unfold wroteG wroteToG
 by_cases hj : j = k
 ·subst hj; simp [marksG]
 ·simp [hj]
theorem wroteToG_zero (f : Nat → List α) : wroteToG mk f 0 = f := by funext j; simp [wroteToG]
theorem wroteToG_at (f : Nat → List α) (n k : Nat) (h : k < n) : wroteToG mk f n k = marksG mk k (f k).length := by simp [wroteToG, h]
theorem wroteToG_same (f : Nat → List α) (n k : Nat) (h : k < n) : (fun j => if j = k then marksG mk k (f k).length else wroteToG mk f n j) = wroteToG mk f n := by
 funext j
 by_cases hj : j = k
 ·subst hj; simp [wroteToG, h]
 ·simp [hj]
theorem marksG_more (k n i : Nat) : marksG mk k (n + i) ++ [mk k (n + i)] = marksG mk k (n + (i + 1)) := by rw [← Nat.add_assoc, marksG_succ]
theorem wroteG_all (f : Nat → List α) (k : Nat) : wroteG mk f k (f k).length = wroteToG mk f (k + 1) := by
 funext j
 unfold wroteG wroteToG
 by_cases hj : j = k
 ·subst hj; simp
 ·by_cases h : j < k
  ·simp [hj, h, show j < k + 1 by omega]
  ·simp [hj, h, show ¬ j < k + 1 by omega]
theorem wroteG_succ (f : Nat → List α) (k i : Nat) (hi : i < (f k).length) : (fun j => if j = k then (wroteG mk f k i k).set i (mk k i) else wroteG mk f k i j) = wroteG mk f k (i + 1) := by
 funext j
 unfold wroteG
 by_cases hj : j = k
 ·subst hj; simp [marksG_set mk _ _ _ hi]
 ·simp [hj]
theorem wroteG_len (f : Nat → List α) (k i : Nat) (hi : i ≤ (f k).length) : (wroteG mk f k i k).length = (f k).length := by unfold wroteG; simp [marksG_length]; omega
theorem wroteToG_len (f : Nat → List α) (n j : Nat) : (wroteToG mk f n j).length = (f j).length := by unfold wroteToG; split <;> simp [marksG_length]
end
end Go.Agg
/-! A file tree that is lent: marks behind its lists, in their spare room. -/
namespace Go.Proofs.YtfiadgdinhmgbaaGreatDoor
open Go.RowKit Pl Go.Agg Go.Tr
def mkK (k i : Nat) : KdV := (mkT k i, ndZ)
mutual
def LenT (base : Nat) (w : World) : NdV → T → List Nat → Prop
 | x, .mk k b l, bs => x.1 = k ∧ LentO EB (marks 1 12) base w x.2.1.1 b ∧ ∃ (ks : List KdV) (cs : List Nat), LentO EK (marksG mkK 1 12) base w x.2.2.1 ks ∧ LenL base w ks l cs ∧ bs = ownB x.2.1.1 ++ (ownB x.2.2.1 ++ cs)
def LenL (base : Nat) (w : World) : List KdV → List (List UInt8 × T) → List Nat → Prop
 | [], [], bs => bs = []
 | y :: ks, (n, t) :: l, bs => y.1 = n ∧ ∃ cs ds, LenT base w y.2 t cs ∧ LenL base w ks l ds ∧ bs = cs ++ ds
 | _, _, _ => False
end
theorem lento_stays {α : Type} {E : Elem Tryz.prog α} {M : List α} {base : Nat} {w w' : World} {v : Value} {l : List α} {S : Nat → Prop} (h : LentO E M base w v l) (ho : Only S w w') (hS : ∀ k ∈ ownB v, ¬ S k) : LentO E M base w' v l := by
 obtain ⟨g, cap, rfl, h⟩ := h
 exact ⟨g, cap, rfl, own_stays h ho (fun k hk => hS k (by simpa [ownB, Value.ownBlock] using hk))⟩
theorem lento_range {α : Type} {E : Elem Tryz.prog α} {M : List α} {base : Nat} {w : World} {v : Value} {l : List α} (h : LentO E M base w v l) : ∀ k ∈ ownB v, base ≤ k ∧ k < w.heap.size := by
 obtain ⟨g, cap, rfl, h⟩ := h
 exact fun k hk => own_range h k (by simpa [ownB, Value.ownBlock] using hk)
theorem lento_slice {α : Type} {E : Elem Tryz.prog α} {M : List α} {base : Nat} {w : World} {v : Value} {l : List α} (h : LentO E M base w v l) : SliceOf E w v l := by
 obtain ⟨g, cap, rfl, h⟩ := h
 refine sliceOf_prefix (M := M) ?_
 exact h.slice
mutual
theorem LenT.only {base : Nat} {w w' : World} {S : Nat → Prop} (ho : Only S w w') : ∀ (t : T) (x : NdV) (bs : List Nat), LenT base w x t bs → (∀ k ∈ bs, ¬ S k) → LenT base w' x t bs
 | .mk _ _ l, _, _, h, hS => by
  obtain ⟨h1, h2, ks, cs, h3, h4, rfl⟩ := h
  exact ⟨h1, lento_stays h2 ho (fun k hk => hS k (by simp [hk])), ks, cs, lento_stays h3 ho (fun k hk => hS k (by simp [hk])), LenL.only ho l ks cs h4 (fun k hk => hS k (by simp [hk])), rfl⟩
theorem LenL.only {base : Nat} {w w' : World} {S : Nat → Prop} (ho : Only S w w') : ∀ (l : List (List UInt8 × T)) (ks : List KdV) (bs : List Nat), LenL base w ks l bs → (∀ k ∈ bs, ¬ S k) → LenL base w' ks l bs
 | [], [], _, h, _ => h
 | (_, t) :: l, y :: ks, _, h, hS => by
  obtain ⟨h1, cs, ds, h2, h3, rfl⟩ := h
  exact ⟨h1, cs, ds, LenT.only ho t y.2 cs h2 (fun k hk => hS k (by simp [hk])), LenL.only ho l ks ds h3 (fun k hk => hS k (by simp [hk])), rfl⟩
 | [], _ :: _, _, h, _ => h.elim
 | _ :: _, [], _, h, _ => h.elim
end
theorem LenT.below {base : Nat} {w w' : World} (hb : Below w.heap.size w w') {t : T} {x : NdV} {bs : List Nat} (h : LenT base w x t bs) : LenT base w' x t bs :=
 LenT.only (S := fun _ => False) (Only.of_below hb) t x bs h (fun _ _ h => h)
theorem LenL.below {base : Nat} {w w' : World} (hb : Below w.heap.size w w') {l : List (List UInt8 × T)} {ks : List KdV} {bs : List Nat} (h : LenL base w ks l bs) : LenL base w' ks l bs :=
 LenL.only (S := fun _ => False) (Only.of_below hb) l ks bs h (fun _ _ h => h)
mutual
theorem LenT.range {base : Nat} {w : World} : ∀ (t : T) (x : NdV) (bs : List Nat), LenT base w x t bs → ∀ k ∈ bs, base ≤ k ∧ k < w.heap.size
 | .mk _ _ l, _, _, h, k, hk => by
  obtain ⟨_, h2, ks, cs, h3, h4, rfl⟩ := h
  simp only [List.mem_append] at hk
  rcases hk with hk | hk | hk
  ·exact lento_range h2 k hk
  ·exact lento_range h3 k hk
  ·exact LenL.range l ks cs h4 k hk
theorem LenL.range {base : Nat} {w : World} : ∀ (l : List (List UInt8 × T)) (ks : List KdV) (bs : List Nat), LenL base w ks l bs → ∀ k ∈ bs, base ≤ k ∧ k < w.heap.size
 | [], [], _, h, k, hk => by
  have h : _ = [] := h
  rw [h] at hk; cases hk
 | (_, t) :: l, y :: ks, _, h, k, hk => by
  obtain ⟨_, cs, ds, h2, h3, rfl⟩ := h
  simp only [List.mem_append] at hk
  rcases hk with hk | hk
  ·exact LenT.range t y.2 cs h2 k hk
  ·exact LenL.range l ks ds h3 k hk
 | [], _ :: _, _, h, _, _ => h.elim
 | _ :: _, [], _, h, _, _ => h.elim
end
mutual
theorem LenT.reads {base : Nat} {w : World} : ∀ (t : T) (x : NdV) (bs : List Nat), LenT base w x t bs → NodeV w x t
 | .mk _ _ l, _, _, h => by
  obtain ⟨h1, h2, ks, cs, h3, h4, _⟩ := h
  exact ⟨h1, lento_slice h2, ks, lento_slice h3, LenL.reads l ks cs h4⟩
theorem LenL.reads {base : Nat} {w : World} : ∀ (l : List (List UInt8 × T)) (ks : List KdV) (bs : List Nat), LenL base w ks l bs → KidsV w ks l
 | [], [], _, _ => trivial
 | (_, t) :: l, y :: ks, _, h => by
  obtain ⟨h1, cs, ds, h2, h3, _⟩ := h
  exact ⟨h1, LenT.reads t y.2 cs h2, LenL.reads l ks ds h3⟩
 | [], _ :: _, _, h => h.elim
 | _ :: _, [], _, h => h.elim
end
mutual
theorem LenT.lower {base b' : Nat} {w : World} (hb : b' ≤ base) : ∀ (t : T) (x : NdV) (bs : List Nat), LenT base w x t bs → LenT b' w x t bs
 | .mk _ _ l, _, _, h => by
  obtain ⟨h1, h2, ks, cs, h3, h4, rfl⟩ := h
  exact ⟨h1, h2.lower hb, ks, cs, h3.lower hb, LenL.lower hb l ks cs h4, rfl⟩
theorem LenL.lower {base b' : Nat} {w : World} (hb : b' ≤ base) : ∀ (l : List (List UInt8 × T)) (ks : List KdV) (bs : List Nat), LenL base w ks l bs → LenL b' w ks l bs
 | [], [], _, h => h
 | (_, t) :: l, y :: ks, _, h => by
  obtain ⟨h1, cs, ds, h2, h3, rfl⟩ := h
  exact ⟨h1, cs, ds, LenT.lower hb t y.2 cs h2, LenL.lower hb l ks ds h3, rfl⟩
 | [], _ :: _, _, h => h.elim
 | _ :: _, [], _, h => h.elim
end
theorem LenL.snoc {base : Nat} {w : World} : ∀ {l : List (List UInt8 × T)} {ks : List KdV} {bs : List Nat} {y : KdV} {t : T} {cs : List Nat}, LenL base w ks l bs → LenT base w y.2 t cs → LenL base w (ks ++ [y]) (l ++ [(y.1, t)]) (bs ++ cs)
 | [], [], _, _, _, cs, h, h2 => by
  have h : _ = [] := h
  subst h
  exact ⟨rfl, cs, [], h2, rfl, by simp⟩
 | (_, _) :: _, _ :: _, _, _, _, _, h, h2 => by
  obtain ⟨h1, cs, ds, h3, h4, rfl⟩ := h
  exact ⟨h1, cs, _, h3, LenL.snoc h4 h2, by simp⟩
 | [], _ :: _, _, _, _, _, h, _ => h.elim
 | _ :: _, [], _, _, _, _, h, _ => h.elim
theorem LenL.at_ {base : Nat} {w : World} : ∀ {ks : List KdV} {l : List (List UInt8 × T)} {bs : List Nat} (k : Nat) (x : List UInt8 × T), LenL base w ks l bs → l[k]? = some x → ∃ y cs, ks[k]? = some y ∧ y.1 = x.1 ∧ LenT base w y.2 x.2 cs
 | [], [], _, k, x, _, h => by simp at h
 | y :: ks, (n, t) :: l, _, 0, x, h, hx => by
  simp only [List.getElem?_cons_zero, Option.some.injEq] at hx
  subst hx
  obtain ⟨h1, cs, ds, h2, _, _⟩ := h
  exact ⟨y, cs, rfl, h1, h2⟩
 | y :: ks, (n, t) :: l, _, k + 1, x, h, hx => by
  simp only [List.getElem?_cons_succ] at hx ⊢
  obtain ⟨_, cs, ds, _, h3, _⟩ := h
  exact LenL.at_ k x h3 hx
 | [], (_, _) :: _, _, _, _, h, _ => h.elim
 | _ :: _, [], _, _, _, h, _ => h.elim
theorem LenL.pushed {base B : Nat} {w w' : World} {v v' : Value} {l : List (List UInt8 × T)} {ks : List KdV} {cs : List Nat} (h : LenL base w ks l cs) (hc : ∀ k ∈ cs, k ∉ ownB v) (hp : Pushed EK B w w' v) (hg : Grew w v v') : LenL base w' ks l cs ∧ ∀ k ∈ cs, k ∉ ownB v' :=
 ⟨LenL.only hp.only l ks cs h fun k hk e => hc k hk (mem_ownB.2 e), fun k hk e => by
  rcases hg k (mem_ownB.1 e) with h1 | h1
  ·exact hc k hk (mem_ownB.2 h1)
  ·have := (LenL.range l ks cs h k hk).2; omega⟩
theorem LenT.pushed {base B : Nat} {w w' : World} {v v' : Value} {t : T} {x : NdV} {cs : List Nat} (h : LenT base w x t cs) (hc : ∀ k ∈ cs, k ∉ ownB v) (hp : Pushed EK B w w' v) (hg : Grew w v v') : LenT base w' x t cs ∧ ∀ k ∈ cs, k ∉ ownB v' :=
 ⟨LenT.only hp.only t x cs h fun k hk e => hc k hk (mem_ownB.2 e), fun k hk e => by
  rcases hg k (mem_ownB.1 e) with h1 | h1
  ·exact hc k hk (mem_ownB.2 h1)
  ·have := (LenT.range t x cs h k hk).2; omega⟩
end Go.Proofs.YtfiadgdinhmgbaaGreatDoor
/-! spencekit.LentKid, LentKids, LentNode. -/
namespace Go.Proofs.YtfiadgdinhmgbaaGreatDoor
open Go.RowKit Pl Go.Agg Go.Tr
def LntC (N : Nat) : Prop := ∀ (t : T) (_ : count t ≤ N) (_ : msz t ≤ 1048576) (x : NdV) (w : World) (_ : NodeV w x t),
 Calls Tryz.prog 21 #[.agg (ndC x)] w fun e w' => ∃ (x' : NdV) (bs : List Nat), e = .returned (.agg (ndC x')) ∧ LenT w.heap.size w' x' t bs ∧ Below w.heap.size w w'
set_option maxRecDepth 100000 in
set_option maxHeartbeats 4000000 in
theorem lentKid_any {N : Nat} (ih : LntC N) (y : KdV) (z : K) (hc : count z.2 ≤ N) (hm : msz z.2 ≤ 1048576) (w : World) (hv : NodeV w y.2 z.2) :
  Calls Tryz.prog 63 #[.agg (kdC y)] w fun e w' => ∃ (x' : NdV) (bs : List Nat), e = .returned (.agg (kdC (y.1, x'))) ∧ LenT w.heap.size w' x' z.2 bs ∧ Below w.heap.size w w' := by
 have HV := Lib.hid hv
 have HIH := Lib.hid ih
 clear ih hv
 go_enter Tryz.func63, Tryz.ntmps63
 go_wp2_with (first | (refine wpList_box rfl 28 _ rfl (kdC y) rfl ?_; intro g1 w1 hb hx hg; have HB1 := Lib.hid hb; have HX1 := Lib.hid hx; have HG1 := Lib.hid (show w.heap.size ≤ g1 from hg); clear hb hx hg) | (refine Agg.wpList_zero rfl 28 rfl (kdC kdZ) kd_zero ?_; intro g2 w2 hb hx hg; have HR2 := Lib.hid hb; have HB2 := Lib.hid (HB1.out.below hx); have HX2 := Lib.hid (belowThen HX1.out (Nat.le_refl _) hx); have HG2 := Lib.hid (show w.heap.size ≤ g2 ∧ g1 < g2 from ⟨Nat.le_trans HX1.out.size hg, Nat.lt_of_lt_of_le HB1.out.lt hg⟩); clear hb hx hg) | (with_reducible refine wpList_loadL (kid_node HB2.out) rfl _ rfl rfl ?_))
 refine (HIH.out z.2 hc hm y.2 w2 (NodeV.below HX2.out _ _ HV.out)).mono ?_
 rintro e w3 ⟨x', bs, rfl, hl, hx⟩
 have HL3 := Lib.hid hl
 have HRG := Lib.hid (LenT.range _ _ _ hl)
 have HS2 := Lib.hid (show g1 < w2.heap.size ∧ g2 < w2.heap.size from ⟨HB2.out.lt, HR2.out.lt⟩)
 have HB3 := Lib.hid (show Blk w3 g1 28 (#[.string ⟨y.1.toArray⟩] ++ (ndC y.2 ++ #[])) from HB2.out.below hx)
 have HR3 := Lib.hid (HR2.out.below hx)
 have HX3 := Lib.hid (belowThen HX2.out (Nat.le_refl _) hx)
 clear hl hx
 go_wp2_with (first | (refine Agg.wpList_putRow rfl rfl 26 _ _ rfl g1 1 #[.string ⟨y.1.toArray⟩] (ndC y.2) #[] (ndC x') rfl rfl HB3.out rfl rfl (nd_info _) (ndC_one _) ?_; intro w4 hb ho; have HB4 := Lib.hid (show Blk w4 g1 28 (kdC (y.1, x')) from hb); have HR4 := Lib.hid (Agg.Blk.keepO HR3.out ho (fun e => by have := HG2.out.2; omega)); have HL4 := Lib.hid (LenT.only ho _ _ _ HL3.out (fun j hj e => by have h1 := (HRG.out j hj).1; have h2 := HS2.out.1; omega)); have HX4 := Lib.hid (HX3.out.trans (ho.below (B := w.heap.size) HX3.out.size (fun i hi => by subst hi; exact HG1.out))); clear hb ho) | (with_reducible refine wpList_loadL (KdL.of_blk HB4.out).all rfl _ rfl rfl ?_) | (refine Agg.wpList_put rfl rfl 28 _ _ rfl g2 (kdC (y.1, x')) (kdC kdZ) rfl rfl HR4.out (kd_info _) rfl (kdC_one _) ?_; intro w5 hb hx hs9 hk; have ho9 := Only.of_eq (S := (· = g2)) hx hs9 hk rfl; have HF := Lib.hid hb; have HL5 := Lib.hid (LenT.only ho9 _ _ _ HL4.out (fun j hj e => by have h1 := (HRG.out j hj).1; have h2 := HS2.out.2; omega)); have HXF := Lib.hid (HX4.out.trans (ho9.below (B := w.heap.size) HX4.out.size (fun i hi => by subst hi; exact HG2.out.1))); clear hb hx hs9 hk ho9))
 exact Agg.post_row rfl rfl HF.out kd_under rfl (kd_info _) rfl ⟨x', bs, rfl, LenT.lower HX2.out.size _ _ _ HL5.out, HXF.out⟩
theorem lento_sv {α : Type} {E : Elem Tryz.prog α} {M : List α} {base : Nat} {w : World} {u : Value} {l : List α} (h : LentO E M base w u l) : ∃ s : SV, u = s.1 := by
 obtain ⟨g, cap, rfl, _⟩ := h
 exact ⟨⟨_, some ⟨g, 0, none⟩, l.length, cap, rfl⟩, rfl⟩
def LksC (N : Nat) : Prop := ∀ (l : List K) (_ : ∀ x ∈ l, count x.2 ≤ N) (_ : mszL l ≤ 1048576) (ks : List KdV) (v : Value) (w : World) (_ : SliceOf EK w v ks) (_ : KidsV w ks l),
 Calls Tryz.prog 40 #[v] w fun e w' => ∃ (u : SV) (lv : List KdV) (cs : List Nat), e = .returned u.1 ∧ LentO EK (marksG mkK 1 12) w.heap.size w' u.1 lv ∧ LenL w.heap.size w' lv l cs ∧ Below w.heap.size w w'
set_option maxRecDepth 100000 in
set_option maxHeartbeats 8000000 in
theorem lentKids_of {N : Nat} (ih : LntC N) : LksC N := by
 intro l hcn hm ks v w hs hk
 have hkl := hk.len
 have hlv := fun W => kds_len hs W
 rw [hkl] at hlv
 have hll : l.length ≤ 1048576 := Nat.le_trans (len_mszL l) hm
 have HS := Lib.hid hs
 have HK := Lib.hid hk
 have HIH := Lib.hid ih
 have HC := Lib.hid hcn
 have HM := Lib.hid (fun x (hx : x ∈ l) => show msz x.2 ≤ 1048576 by have := mem_mszL hx; omega)
 clear hs hk ih hcn hm
 have hc : l.length + 12 ≤ 1099511627776 / 8 := by omega
 go_enter Tryz.func40, Tryz.ntmps40
 go_wp2_with (first | (refine Agg.wpList_make0 (base := w.heap.size) EK rfl .i64 .i64 _ (l.length + 12) rfl rfl hc (by decide) (Nat.le_refl _) ?_; intro v1 w1 ho1 hx1; have HO1 := Lib.hid ho1; have HX1 := Lib.hid hx1; clear ho1 hx1))
 go_loopw [3, 4] (fun out i wr => ∃ (k : Nat) (lv : List KdV) (cs : List Nat), k ≤ l.length ∧ i = .int .i64 (k : Int) ∧ Agg.Own EK w.heap.size wr out lv ∧ LenL w.heap.size wr lv (l.take k) cs ∧ (∀ j ∈ cs, j ∉ ownB out) ∧ Below w.heap.size w wr) (fun _ i _ => l.length - (intOf i).toNat)
 case atStart => exact ⟨0, [], [], by omega, rfl, HO1.out, rfl, by simp, HX1.out⟩
 case round =>
  clear HO1 HX1
  obtain ⟨wr1, rfl⟩ : ∃ y : World, y = wr := ⟨_, rfl⟩
  obtain ⟨k, lv, cs, hk, rfl, ho, hl, hd, hx⟩ := hrel
  have hlen : lv.length = k := by have := (LenL.reads _ _ _ hl).len; rw [this, List.length_take]; omega
  have HO := Lib.hid ho
  have HL := Lib.hid hl
  have HD := Lib.hid hd
  have HX := Lib.hid hx
  clear ho hl hd hx
  by_cases hlt : k < l.length
  ·have hd1 : decide ((k : Int) < (l.length : Int)) = true := decide_eq_true (by omega)
   obtain ⟨z, hzk⟩ : ∃ z, l[k]? = some z := ⟨_, List.getElem?_eq_getElem hlt⟩
   obtain ⟨y, hyk, hyz, hyn⟩ := HK.out.at_ k z hzk
   obtain ⟨p, hadr, hle⟩ := kid_at (HS.out.below HX.out) k y hyk
   have HE := Lib.hid hle.all
   have hin := List.mem_of_getElem? hzk
   have HYN := Lib.hid (NodeV.below HX.out _ _ hyn)
   have HTK := Lib.hid (show l.take (k + 1) = l.take k ++ [(y.1, z.2)] by rw [List.take_add_one, hzk, hyz]; rfl)
   have HCZ := Lib.hid (HC.out z hin)
   have HMZ := Lib.hid (HM.out z hin)
   clear hle hyk hyz hyn hzk hin
   go_wp2_with (first | (with_reducible refine wpList_loadL HE.out rfl _ rfl rfl ?_))
   refine (lentKid_any HIH.out y z HCZ.out HMZ.out wr1 HYN.out).mono ?_
   rintro e w2 ⟨x', b2, rfl, hl2, hx2⟩
   have hsz := HX.out.size
   have HO2 := Lib.hid (HO.out.below hx2)
   have HL2 := Lib.hid (HL.out.below hx2)
   have HN2 := Lib.hid (LenT.lower hsz _ _ _ hl2)
   have HDN := Lib.hid (fun j (hj : j ∈ b2) (e : j ∈ ownB _) => show False by have h1 := (LenT.range _ _ _ hl2 j hj).1; have h2 := (own_range HO.out j e).2; omega)
   have HX2 := Lib.hid (belowThen HX.out (Nat.le_refl _) hx2)
   clear hl2 hx2 hadr
   go_wp2_with (first | (refine wpList_new rfl rfl rfl 28 5 21 rfl rfl rfl (by decide) (kdC kdZ) (kdC (y.1, x')) kd_zero rfl (kd_info _) (kdC_one _) rfl (by first | (simp; done) | simp [Act.put]) ?_; intro g3 w3 hb3 hx3 hg3; have HB3 := Lib.hid hb3; have HO3 := Lib.hid (HO2.out.below hx3); have HL3 := Lib.hid (HL2.out.below hx3); have HN3 := Lib.hid (HN2.out.below hx3); have HX3 := Lib.hid (belowThen HX2.out (Nat.le_refl _) hx3); clear hb3 hx3 hg3) | (with_reducible refine wpList_loadL (KdL.of_blk HB3.out).all rfl _ rfl rfl ?_) | (refine Agg.wpList_pushO (E := EK) (base := w.heap.size) rfl rfl 24 rfl _ rfl _ rfl (y.1, x') rfl (fun _ => rfl) (by first | (simp; done) | simp [Act.put]) HO3.out (by omega) (by decide) HX3.out.size ?_; intro u5 v5 w5 ho5 hp5 hg5; have HO5 := Lib.hid ho5; have HL5 := Lib.hid (LenL.pushed HL3.out HD.out hp5 hg5); have HN5 := Lib.hid (LenT.pushed HN3.out HDN.out hp5 hg5); have HX5 := Lib.hid (HX3.out.trans (hp5.below w.heap.size (Nat.le_refl _) HX3.out.size)); clear ho5 hp5 hg5))
   go_roundw
   case rel =>
    refine ⟨k + 1, lv ++ [(y.1, x')], cs ++ b2, by omega, by go_num, HO5.out, ?_, fun j hj => ?_, HX5.out⟩
    ·rw [HTK.out]; exact LenL.snoc (y := (y.1, x')) HL5.out.1 HN5.out.1
    ·rcases List.mem_append.1 hj with hj | hj
     ·exact HL5.out.2 j hj
     ·exact HN5.out.2 j hj
   case measure => simp [intOf] <;> omega
  ·obtain rfl : k = l.length := by omega
   have hd1 : decide ((l.length : Int) < (l.length : Int)) = false := by simp
   have HLA := Lib.hid (show LenL w.heap.size wr1 lv l cs by have := HL.out; rwa [List.take_length] at this)
   go_wp2_with fail
   go_loopw [3, 6] (fun out i ws => ∃ k : Nat, k ≤ 12 ∧ i = .int .i64 (k : Int) ∧ Agg.Own EK w.heap.size ws out (lv ++ marksG mkK 1 k) ∧ LenL w.heap.size ws lv l cs ∧ (∀ j ∈ cs, j ∉ ownB out) ∧ Below w.heap.size w ws) (fun _ i _ => 12 - (intOf i).toNat)
   case atStart => exact ⟨0, by omega, rfl, by simpa [marksG] using HO.out, HLA.out, HD.out, HX.out⟩
   case round =>
    clear HO HL HD HX HLA
    obtain ⟨ws1, rfl⟩ : ∃ y : World, y = wr := ⟨_, rfl⟩
    obtain ⟨k, hk, rfl, ho, hl, hd, hx⟩ := hrel
    have HO := Lib.hid ho
    have HL := Lib.hid hl
    have HD := Lib.hid hd
    have HX := Lib.hid hx
    clear ho hl hd hx
    by_cases hlt : k < 12
    ·have hd12 : decide ((k : Int) < 12) = true := decide_eq_true (by omega)
     have h63 : (lv ++ marksG mkK 1 k).length + 1 ≤ 1099511627776 / 8 := by rw [List.length_append, marksG_length]; omega
     go_wp2_with fail
     refine (markKid_any 1 k _).mono ?_
     rintro e w4 ⟨rfl, hw4⟩
     have HX4 := Lib.hid (belowThen HX.out (Nat.le_refl _) hw4)
     have HO4 := Lib.hid (HO.out.below hw4)
     have HL4 := Lib.hid (HL.out.below hw4)
     clear hw4
     go_wp2_with (first | (refine Agg.wpList_pushO (E := EK) (base := w.heap.size) rfl rfl 33 rfl _ rfl _ rfl (mkK 1 k) rfl (fun _ => rfl) (by first | (simp; done) | simp [Act.put]) HO4.out h63 (by decide) HX4.out.size ?_; intro u5 v5 w5 ho5 hp5 hg5; have HO5 := Lib.hid (show Agg.Own EK w.heap.size w5 v5 (lv ++ marksG mkK 1 (k + 1)) by rw [marksG_succ, ← List.append_assoc]; exact ho5); have HL5 := Lib.hid (LenL.pushed HL4.out HD.out hp5 hg5); have HX5 := Lib.hid (HX4.out.trans (hp5.below w.heap.size (Nat.le_refl _) HX4.out.size)); clear ho5 hp5 hg5))
     go_roundw
     case rel => exact ⟨k + 1, by omega, by go_num, HO5.out, HL5.out.1, HL5.out.2, HX5.out⟩
     case measure => simp [intOf] <;> omega
    ·obtain rfl : k = 12 := by omega
     obtain ⟨g, cap, rfl, hcap, hlent⟩ := LentO.of_own HO.out (by rw [marksG_length]; omega)
     rw [marksG_length] at hcap
     rw [hlen] at hcap
     have hcap2 : l.length ≤ cap := by omega
     have HLT := Lib.hid (show LentO EK (marksG mkK 1 12) w.heap.size ws1 (.slice (some ⟨g, 0, none⟩) l.length cap) lv by rw [← hlen]; exact hlent)
     clear hlent
     simp only [hlen]
     go_wp2_with fail
     go_ret
     exact ⟨⟨_, some ⟨g, 0, none⟩, l.length, cap, rfl⟩, lv, cs, rfl, HLT.out, HL.out, HX.out⟩
set_option maxRecDepth 100000 in
set_option maxHeartbeats 4000000 in
theorem lentNode_of {N : Nat} (hks : LksC N) : LntC (N + 1) := by
 intro t hc hm x w hv
 obtain ⟨k, b, l⟩ := t
 obtain ⟨xk, xb, xs⟩ := x
 obtain ⟨hk, hby, ks, hsl, hkv⟩ := hv
 obtain rfl : xk = k := hk
 have hbl : b.length ≤ 1048576 := Nat.le_trans (bytes_msz xk b l) hm
 have hml : mszL l ≤ 1048576 := by simp only [msz] at hm; omega
 have HC := Lib.hid (fun x (hx : x ∈ l) => show count x.2 ≤ N by have h1 := countL_mem hx; simp only [count] at hc; omega)
 have HBY := Lib.hid (show BytesAt w xb.1 b from hby)
 have HSL := Lib.hid (show SliceOf EK w xs.1 ks from hsl)
 have HKV := Lib.hid hkv
 have HKS := Lib.hid hks
 clear hby hsl hkv hks hc hm
 go_enter Tryz.func21, Tryz.ntmps21
 go_wp2_with (first | (refine wpList_box rfl 26 _ rfl (ndC (xk, xb, xs)) rfl ?_; intro g1 w1 hb hx hg; have HB1 := Lib.hid hb; have HX1 := Lib.hid hx; have HG1 := Lib.hid (show w.heap.size ≤ g1 from hg); clear hb hx hg) | (refine Agg.wpList_zero rfl 26 rfl (ndC ndZ) nd_zero ?_; intro g2 w2 hb hx hg; have HR2 := Lib.hid hb; have HB2 := Lib.hid (HB1.out.below hx); have HX2 := Lib.hid (belowThen HX1.out (Nat.le_refl _) hx); have HG2 := Lib.hid (show w.heap.size ≤ g2 ∧ g1 < g2 from ⟨Nat.le_trans HX1.out.size hg, Nat.lt_of_lt_of_le HB1.out.lt hg⟩); clear hb hx hg) | (with_reducible refine wpList_loadL (NdL.of_blk HB2.out).bytes rfl _ rfl rfl ?_))
 refine (lentBytes_own xb.1 b hbl w2 (SliceOf.below HBY.out HX2.out)).mono ?_
 rintro e w3 ⟨ub, rfl, hx, hl⟩
 obtain ⟨ub, rfl⟩ := lento_sv hl
 have HU3 := Lib.hid hl
 have HS2 := Lib.hid (show g1 < w2.heap.size ∧ g2 < w2.heap.size from ⟨HB2.out.lt, HR2.out.lt⟩)
 have HB3 := Lib.hid (HB2.out.below hx)
 have HR3 := Lib.hid (HR2.out.below hx)
 have HX3 := Lib.hid (belowThen HX2.out (Nat.le_refl _) hx)
 clear hl hx
 go_wp2_with (first | (refine Agg.wpList_put1 rfl rfl 23 _ _ rfl g1 1 ub.1 rfl rfl HB3.out (show 1 < 3 by decide) (sv_cells _) (sv_oneT _) (by kernel_rfl) (ndC (xk, ub, xs)) rfl ?_; intro w4 hb ho hs; have HB4 := Lib.hid hb; have HR4 := Lib.hid (Agg.Blk.keepO HR3.out ho (fun e => by have := HG2.out.2; omega)); have HU4 := Lib.hid (lento_stays HU3.out ho (fun j hj e => by have h1 := (lento_range HU3.out j hj).1; have h2 := HS2.out.1; omega)); have HX4 := Lib.hid (HX3.out.trans (ho.below (B := w.heap.size) HX3.out.size (fun i hi => by subst hi; exact HG1.out))); clear hb ho hs) | (with_reducible refine wpList_loadL (NdL.of_blk HB4.out).kids rfl _ rfl rfl ?_))
 refine (HKS.out l HC.out hml ks xs.1 w4 (SliceOf.below HSL.out HX4.out) (KidsV.below HX4.out _ _ HKV.out)).mono ?_
 rintro e w5 ⟨uk, lv, cs, rfl, hl, hll, hx⟩
 have HL5 := Lib.hid hl
 have HK5 := Lib.hid hll
 have HS4' := Lib.hid (show g1 < w4.heap.size ∧ g2 < w4.heap.size from ⟨HB4.out.lt, HR4.out.lt⟩)
 have HRG := Lib.hid (LenL.range _ _ _ hll)
 have HU5 := Lib.hid (HU4.out.below hx)
 have HB5 := Lib.hid (HB4.out.below hx)
 have HR5 := Lib.hid (HR4.out.below hx)
 have HX5 := Lib.hid (belowThen HX4.out (Nat.le_refl _) hx)
 clear hl hll hx
 go_wp2_with (first | (refine Agg.wpList_put1 rfl rfl 24 _ _ rfl g1 2 uk.1 rfl rfl HB5.out (show 2 < 3 by decide) (sv_cells _) (sv_oneT _) (by kernel_rfl) (ndC (xk, ub, uk)) rfl ?_; intro w6 hb ho hs; have HB6 := Lib.hid hb; have HR6 := Lib.hid (Agg.Blk.keepO HR5.out ho (fun e => by have := HG2.out.2; omega)); have HU6 := Lib.hid (lento_stays HU5.out ho (fun j hj e => by have h1 := (lento_range HU3.out j hj).1; have h2 := HS2.out.1; omega)); have HL6 := Lib.hid (lento_stays HL5.out ho (fun j hj e => by have h1 := (lento_range HL5.out j hj).1; have h2 := HS4'.out.1; omega)); have HK6 := Lib.hid (LenL.only ho _ _ _ HK5.out (fun j hj e => by have h1 := (HRG.out j hj).1; have h2 := HS4'.out.1; omega)); have HX6 := Lib.hid (HX5.out.trans (ho.below (B := w.heap.size) HX5.out.size (fun i hi => by subst hi; exact HG1.out))); clear hb ho hs) | (with_reducible refine wpList_loadL (NdL.of_blk HB6.out).all rfl _ rfl rfl ?_) | (refine Agg.wpList_put rfl rfl 26 _ _ rfl g2 (ndC (xk, ub, uk)) (ndC ndZ) rfl rfl HR6.out (nd_info _) rfl (ndC_one _) ?_; intro w7 hb hx hs9 hk; have ho9 := Only.of_eq (S := (· = g2)) hx hs9 hk rfl; have HF := Lib.hid hb; have HU7 := Lib.hid (lento_stays HU6.out ho9 (fun j hj e => by have h1 := (lento_range HU3.out j hj).1; have h2 := HS2.out.2; omega)); have HL7 := Lib.hid (lento_stays HL6.out ho9 (fun j hj e => by have h1 := (lento_range HL5.out j hj).1; have h2 := HS4'.out.2; omega)); have HK7 := Lib.hid (LenL.only ho9 _ _ _ HK6.out (fun j hj e => by have h1 := (HRG.out j hj).1; have h2 := HS4'.out.2; omega)); have HXF := Lib.hid (HX6.out.trans (ho9.below (B := w.heap.size) HX6.out.size (fun i hi => by subst hi; exact HG2.out.1))); clear hb hx hs9 hk ho9))
 exact Agg.post_row rfl rfl HF.out nd_under rfl (nd_info _) rfl ⟨(xk, ub, uk), _, rfl, ⟨rfl, HU7.out.lower HX2.out.size, lv, cs, HL7.out.lower HX4.out.size, LenL.lower HX4.out.size _ _ _ HK7.out, rfl⟩, HXF.out⟩
theorem lentNode_all : ∀ N, LntC N
 | 0 => fun t hc => by have := count_pos t; omega
 | N + 1 => lentNode_of (lentKids_of (lentNode_all N))
theorem lentNode_any (t : T) (hm : msz t ≤ 1048576) (v : Value) (w : World) (hv : NodeAt w v t) :
  Calls Tryz.prog 21 #[v] w fun e w' => ∃ (x : NdV) (bs : List Nat), e = .returned (.agg (ndC x)) ∧ LenT w.heap.size w' x t bs ∧ Below w.heap.size w w' := by
 obtain ⟨x, rfl, hx⟩ := hv
 exact lentNode_all (count t) t (Nat.le_refl _) hm x w hx
end Go.Proofs.YtfiadgdinhmgbaaGreatDoor
/-! spencekit.KeptKid, KeptKids, KeptNode. -/
namespace Go.Proofs.YtfiadgdinhmgbaaGreatDoor
open Go.RowKit Pl Go.Agg Go.Tr
theorem LentO.lent0 {α : Type} {E : Elem Tryz.prog α} {M l : List α} {base : Nat} {w : World} {u : Value} (h : LentO E M base w u l) (hM : 0 < M.length) : Lent E M base w u l := LentO.lent h hM
def KepC (N : Nat) : Prop := ∀ (t : T) (_ : count t ≤ N) (_ : msz t ≤ 1048576) (x y : NdV) (bs : List Nat) (base : Nat) (w : World) (_ : LenT base w x t bs) (_ : NodeV w y t),
 Calls Tryz.prog 27 #[.agg (ndC x), .agg (ndC y)] w fun e w' => e = .returned (.bool true) ∧ Below w.heap.size w w'
set_option maxRecDepth 100000 in
set_option maxHeartbeats 4000000 in
theorem keptKid_any {N : Nat} (ih : KepC N) (x y : KdV) (z : K) (hc : count z.2 ≤ N) (hm : msz z.2 ≤ 1048576) (hx1 : x.1 = z.1) (hy1 : y.1 = z.1) (bs : List Nat) (base : Nat) (w : World) (hx2 : LenT base w x.2 z.2 bs) (hy2 : NodeV w y.2 z.2) :
  Calls Tryz.prog 85 #[.agg (kdC x), .agg (kdC y)] w fun e w' => e = .returned (.bool true) ∧ Below w.heap.size w w' := by
 have HSK := Lib.hid (fun W (hW : Below w.heap.size w W) => show Calls Tryz.prog 60 #[.agg (kdC x), .agg (kdC y)] W fun e w' => e = .returned (.bool true) ∧ Below W.heap.size W w' by
  have h := snKid_any (sn_all (count z.2)) z z (Nat.le_refl _) hm hm x y W hx1 (NodeV.below hW _ _ (LenT.reads _ _ _ hx2)) hy1 (NodeV.below hW _ _ hy2)
  rwa [decide_eq_true (rfl : z = z)] at h)
 have HKN := Lib.hid (fun W (hW : Below w.heap.size w W) => ih z.2 hc hm x.2 y.2 bs base W (hx2.below hW) (NodeV.below hW _ _ hy2))
 clear hx2 hy2 ih
 go_enter Tryz.func85, Tryz.ntmps85
 go_wp2_with (first | (refine wpList_box rfl 28 _ rfl (kdC x) rfl ?_; intro g1 w1 hb hx hg; have HA1 := Lib.hid hb; have HX1 := Lib.hid hx; clear hb hx hg) | (refine wpList_box rfl 28 _ rfl (kdC y) rfl ?_; intro g2 w2 hb hx hg; have HB2 := Lib.hid hb; have HA2 := Lib.hid (HA1.out.below hx); have HX2 := Lib.hid (belowThen HX1.out (Nat.le_refl _) hx); clear hb hx hg) | (with_reducible refine wpList_loadL (KdL.of_blk HA2.out).all rfl _ rfl rfl ?_) | (with_reducible refine wpList_loadL (KdL.of_blk HB2.out).all rfl _ rfl rfl ?_))
 refine (HSK.out _ HX2.out).mono ?_
 rintro e w3 ⟨rfl, hx⟩
 have HA3 := Lib.hid (HA2.out.below hx)
 have HB3 := Lib.hid (HB2.out.below hx)
 have HX3 := Lib.hid (belowThen HX2.out (Nat.le_refl _) hx)
 clear hx
 go_wp2_with (first | (with_reducible refine wpList_loadL (kid_node HA3.out) rfl _ rfl rfl ?_) | (with_reducible refine wpList_loadL (kid_node HB3.out) rfl _ rfl rfl ?_))
 refine (HKN.out _ HX3.out).mono ?_
 rintro e w4 ⟨rfl, hx⟩
 have HX4 := Lib.hid (belowThen HX3.out (Nat.le_refl _) hx)
 clear hx
 go_wp2_with fail
 go_ret
 exact ⟨rfl, HX4.out⟩
theorem nodeV_zero (w : World) : NodeV w ndZ (.mk 0 [] []) := ⟨rfl, SliceOf.nil _ _ _, [], SliceOf.nil _ _ _, trivial⟩
theorem markKid_off (k n : Nat) (hk : n ≤ k) (w : World) : Calls Tryz.prog 62 #[.int .i64 1, .int .i64 ((k : Int) - (n : Int))] w fun e w' => e = .returned (.agg (kdC (mkT 1 (k - n), ndZ))) ∧ Below w.heap.size w w' := by
 rw [show ((k : Int) - (n : Int)) = ((k - n : Nat) : Int) by omega]
 exact markKid_any 1 (k - n) w
set_option maxRecDepth 100000 in
set_option maxHeartbeats 8000000 in
theorem keptKids_any {N : Nat} (ih : KepC N) (l : List K) (hcn : ∀ x ∈ l, count x.2 ≤ N) (hm : mszL l ≤ 1048576) (u v : Value) (lv ks : List KdV) (cs : List Nat) (base : Nat) (w : World) (hu : LentO EK (marksG mkK 1 12) base w u lv) (hl : LenL base w lv l cs) (hs : SliceOf EK w v ks) (hkv : KidsV w ks l) :
  Calls Tryz.prog 43 #[u, v] w fun e w' => e = .returned (.bool true) ∧ Below w.heap.size w w' := by
 have hlen := (LenL.reads _ _ _ hl).len
 have hkl := hkv.len
 have hlv := fun W => kds_len hs W
 rw [hkl] at hlv
 have hll : l.length ≤ 1048576 := Nat.le_trans (len_mszL l) hm
 have HS := Lib.hid hs
 have HKV := Lib.hid hkv
 have HL := Lib.hid hl
 have HIH := Lib.hid ih
 have HC := Lib.hid hcn
 have HM := Lib.hid (fun x (hx : x ∈ l) => show msz x.2 ≤ 1048576 by have := mem_mszL hx; omega)
 obtain ⟨g, cap, rfl, _, hcap, ha⟩ := hu.lent0 (by rw [marksG_length]; omega)
 rw [marksG_length] at hcap ha
 rw [hlen] at hcap ha
 have HA := Lib.hid ha
 clear hs hkv hl ih hcn hm ha hu
 simp only [hlen]
 have hne : ((l.length : Int) != (l.length : Int)) = false := by simp
 go_enter Tryz.func43, Tryz.ntmps43
 go_wp2_with fail
 go_loopw [6] (fun i wr => ∃ k : Nat, k ≤ l.length + 12 ∧ i = .int .i64 (k : Int) ∧ Below w.heap.size w wr) (fun i _ => l.length + 12 - (intOf i).toNat)
 case atStart => exact ⟨0, by omega, rfl, Below.refl _ _⟩
 case round =>
  obtain ⟨w1, rfl⟩ : ∃ w1 : World, w1 = wr := ⟨_, rfl⟩
  obtain ⟨k, hk, rfl, hw⟩ := hrel
  have HW := Lib.hid hw
  clear hw
  by_cases hlt : k < l.length + 12
  ·by_cases hlt2 : k < l.length
   ·obtain ⟨z, hzk⟩ : ∃ z, l[k]? = some z := ⟨_, List.getElem?_eq_getElem hlt2⟩
    obtain ⟨y, hyk, hyz, hyn⟩ := HKV.out.at_ k z hzk
    obtain ⟨x, bs, hxk, hxz, hxn⟩ := LenL.at_ k z HL.out hzk
    have hin := List.mem_of_getElem? hzk
    obtain ⟨pv, hadv, hldv⟩ := kid_at (HS.out.below HW.out) k y hyk
    obtain ⟨pa, hadp, hlda⟩ := kid_at (SliceOf.below HA.out HW.out) k x (by rw [List.getElem?_append_left (by omega)]; exact hxk)
    have HLA := Lib.hid hlda.all
    have HLV := Lib.hid hldv.all
    have hcz := HC.out z hin
    have hmz := HM.out z hin
    have HKB := Lib.hid (fun q : Later w1 => keptKid_any HIH.out x y z hcz hmz hxz hyz bs base q.w ((hxn.below HW.out).below q.h) (NodeV.below q.h _ _ (NodeV.below HW.out _ _ hyn)))
    have hd1 : decide ((k : Int) < (l.length : Int)) = true := decide_eq_true (by omega)
    have hd3 : decide (l.length ≤ k) = false := decide_eq_false (by omega)
    clear hyk hxk hxz hyz hldv hlda hxn hyn hzk hin hcz hmz
    go_wp2_with fail
    try simp only [List.append_eq, List.cons_append, List.nil_append]
    try simp only [Act.put, List.setIfInBounds_toArray, List.set_cons_succ, List.set_cons_zero]
    refine wp_region_later_lit (by kernel_rfl) (by kernel_rfl) ?_
    repeat (first | go_big_quiet_skip | ((first | (with_reducible refine wpQuiet_loadL HLA.out rfl _ rfl rfl ?_) | (with_reducible refine wpQuiet_loadL HLV.out rfl _ rfl rfl ?_)); simp only [Act.put, List.setIfInBounds_toArray, List.set_cons_succ, List.set_cons_zero]) | go_big_quiet_step ((first | (go_at_call 85; exact Calls.later (HKB.out _)))))
    refine wpQuiet_nil ?_
    intro _ hw'
    obtain ⟨x1, rfl⟩ := hw'
    go_wp2_with fail
    go_roundw
    case rel => exact ⟨k + 1, by omega, by go_num, belowThen HW.out (Nat.le_refl _) x1.h⟩
    case measure => simp [intOf]; omega
   ·obtain ⟨m, hmm⟩ : ∃ m, m = mkT 1 (k - l.length) := ⟨_, rfl⟩
    obtain ⟨pa, hadp, hlda⟩ := kid_at (SliceOf.below HA.out HW.out) k (m, ndZ) (by rw [List.getElem?_append_right (by omega), hlen, hmm]; exact marksG_get mkK _ _ _ (by omega))
    have HLA := Lib.hid hlda.all
    have HMN := Lib.hid (fun q : Later w1 => (show Calls Tryz.prog 62 #[.int .i64 1, .int .i64 ((k : Int) - (l.length : Int))] q.w fun e w' => e = .returned (.agg (kdC (m, ndZ))) ∧ Below q.w.heap.size q.w w' by rw [hmm]; exact markKid_off k l.length (by omega) q.w))
    have hml : msz (.mk 0 [] []) ≤ 1048576 := by decide +kernel
    have HSB := Lib.hid (fun q : Later w1 => (show Calls Tryz.prog 60 #[.agg (kdC (m, ndZ)), .agg (kdC (m, ndZ))] q.w fun e w' => e = .returned (.bool true) ∧ Below q.w.heap.size q.w w' by
     have h := snKid_any (sn_all (count (.mk 0 [] []))) (m, .mk 0 [] []) (m, .mk 0 [] []) (Nat.le_refl _) hml hml (m, ndZ) (m, ndZ) q.w rfl (nodeV_zero _) rfl (nodeV_zero _)
     rwa [decide_eq_true rfl] at h))
    have hd1 : decide ((k : Int) < (l.length : Int)) = false := decide_eq_false (by omega)
    have hd3 : decide (l.length ≤ k) = true := decide_eq_true (by omega)
    clear hlda hmm hml
    go_wp2_with fail
    try simp only [List.append_eq, List.cons_append, List.nil_append]
    try simp only [Act.put, List.setIfInBounds_toArray, List.set_cons_succ, List.set_cons_zero]
    refine wp_region_later_lit (by kernel_rfl) (by kernel_rfl) ?_
    repeat (first | go_big_quiet_skip | ((first | (with_reducible refine wpQuiet_loadL HLA.out rfl _ rfl rfl ?_)); simp only [Act.put, List.setIfInBounds_toArray, List.set_cons_succ, List.set_cons_zero]) | go_big_quiet_step ((first | (go_at_call 62; exact Calls.later (HMN.out _)) | (go_at_call 60; exact Calls.later (HSB.out _)))))
    refine wpQuiet_nil ?_
    intro _ hw'
    obtain ⟨x1, rfl⟩ := hw'
    go_wp2_with fail
    go_roundw
    case rel => exact ⟨k + 1, by omega, by go_num, belowThen HW.out (Nat.le_refl _) x1.h⟩
    case measure => simp [intOf]; omega
  ·obtain rfl : k = l.length + 12 := by omega
   go_wp2_with fail
   go_ret
   exact ⟨rfl, HW.out⟩
set_option maxRecDepth 100000 in
set_option maxHeartbeats 4000000 in
theorem keptNode_of {N : Nat} (ih : KepC N) : KepC (N + 1) := by
 intro t hc hm x y bs base w hx hy
 have HSN := Lib.hid (fun W (hW : Below w.heap.size w W) => show Calls Tryz.prog 15 #[.agg (ndC x), .agg (ndC y)] W fun e w' => e = .returned (.bool true) ∧ Below W.heap.size W w' by
  have h := sameNode_any t t hm hm (.agg (ndC x)) (.agg (ndC y)) W ⟨x, rfl, NodeV.below hW _ _ (LenT.reads _ _ _ hx)⟩ ⟨y, rfl, NodeV.below hW _ _ hy⟩
  rwa [(same_iff t t).2 rfl] at h)
 obtain ⟨k, b, l⟩ := t
 have hbl : b.length ≤ 1048576 := Nat.le_trans (bytes_msz k b l) hm
 have hml : mszL l ≤ 1048576 := by simp only [msz] at hm; omega
 obtain ⟨hk, hxb, lv, cs, hxk, hxl, _⟩ := hx
 obtain ⟨hk2, hyb, ks, hyk, hyl⟩ := hy
 have HKB := Lib.hid (fun W (hW : Below w.heap.size w W) => keptBytes_any x.2.1.1 y.2.1.1 b hbl base W ((hxb.below hW).lent0 (by rw [marks_length]; omega)) (SliceOf.below hyb hW))
 have HKK := Lib.hid (fun W (hW : Below w.heap.size w W) => keptKids_any ih l (fun x hx => by have h1 := countL_mem hx; simp only [count] at hc; omega) hml x.2.2.1 y.2.2.1 lv ks cs base W (hxk.below hW) (hxl.below hW) (SliceOf.below hyk hW) (KidsV.below hW _ _ hyl))
 clear hxb hxk hxl hyb hyk hyl ih hc hm
 go_enter Tryz.func27, Tryz.ntmps27
 go_wp2_with (first | (refine wpList_box rfl 26 _ rfl (ndC x) rfl ?_; intro g1 w1 hb hx hg; have HA1 := Lib.hid hb; have HX1 := Lib.hid hx; clear hb hx hg) | (refine wpList_box rfl 26 _ rfl (ndC y) rfl ?_; intro g2 w2 hb hx hg; have HB2 := Lib.hid hb; have HA2 := Lib.hid (HA1.out.below hx); have HX2 := Lib.hid (belowThen HX1.out (Nat.le_refl _) hx); clear hb hx hg) | (with_reducible refine wpList_loadL (NdL.of_blk HA2.out).all rfl _ rfl rfl ?_) | (with_reducible refine wpList_loadL (NdL.of_blk HB2.out).all rfl _ rfl rfl ?_))
 refine (HSN.out _ HX2.out).mono ?_
 rintro e w3 ⟨rfl, hx⟩
 have HA3 := Lib.hid (HA2.out.below hx)
 have HB3 := Lib.hid (HB2.out.below hx)
 have HX3 := Lib.hid (belowThen HX2.out (Nat.le_refl _) hx)
 clear hx
 go_wp2_with (first | (with_reducible refine wpList_loadL (NdL.of_blk HA3.out).bytes rfl _ rfl rfl ?_) | (with_reducible refine wpList_loadL (NdL.of_blk HB3.out).bytes rfl _ rfl rfl ?_))
 refine (HKB.out _ HX3.out).mono ?_
 rintro e w4 ⟨rfl, hx⟩
 have HA4 := Lib.hid (HA3.out.below hx)
 have HB4 := Lib.hid (HB3.out.below hx)
 have HX4 := Lib.hid (belowThen HX3.out (Nat.le_refl _) hx)
 clear hx
 go_wp2_with (first | (with_reducible refine wpList_loadL (NdL.of_blk HA4.out).kids rfl _ rfl rfl ?_) | (with_reducible refine wpList_loadL (NdL.of_blk HB4.out).kids rfl _ rfl rfl ?_))
 refine (HKK.out _ HX4.out).mono ?_
 rintro e w5 ⟨rfl, hx⟩
 have HX5 := Lib.hid (belowThen HX4.out (Nat.le_refl _) hx)
 clear hx
 go_wp2_with fail
 go_ret
 exact ⟨rfl, HX5.out⟩
theorem keptNode_all : ∀ N, KepC N
 | 0 => fun t hc => by have := count_pos t; omega
 | N + 1 => keptNode_of (keptNode_all N)
end Go.Proofs.YtfiadgdinhmgbaaGreatDoor
/-! spenceref09.Pack, Size. -/
namespace Go.Proofs.YtfiadgdinhmgbaaGreatDoor
open Go.RowKit Pl Go.Agg Go.Tr
set_option maxRecDepth 100000 in
set_option maxHeartbeats 4000000 in
theorem rpack_any (vn : Value) (t : T) (hm : msz t ≤ 1048576) (w : World) (hv : NodeAt w vn t) :
  Calls Tryz.prog 23 #[vn] w fun e w' => ∃ v', e = .returned (.tuple #[v', .int .i64 (pkE t : Int)]) ∧ Agg.Own EB w.heap.size w' v' (pkB t) ∧ Below w.heap.size w w' := by
 obtain ⟨x, rfl, hx⟩ := hv
 have HN := Lib.hid hx
 clear hx
 go_enter Tryz.func23, Tryz.ntmps23
 go_wp2_with (first | (refine wpList_box rfl 26 _ rfl (ndC x) rfl ?_; intro g1 w1 hb hx hg; have HB1 := Lib.hid hb; have HX1 := Lib.hid hx; clear hb hx hg) | (with_reducible refine wpList_loadL (NdL.of_blk HB1.out).all rfl _ rfl rfl ?_))
 refine (rright_any (.agg (ndC x)) t hm w1 ⟨x, rfl, HN.out.below HX1.out⟩).mono ?_
 rintro e w2 ⟨rfl, hx⟩
 have HB2 := Lib.hid (HB1.out.below hx)
 have HX2 := Lib.hid (belowThen HX1.out (Nat.le_refl _) hx)
 clear hx
 cases hr : right t with
 | false =>
  have HE := Lib.hid (show pkE t = 2 ∧ pkB t = [] by simp [pkE, pkB, hr])
  clear hr
  go_wp2_with fail
  go_ret2
  exact ⟨_, by rw [HE.out.1]; rfl, by rw [HE.out.2]; exact Agg.Own.nil _ _ _, HX2.out⟩
 | true =>
  have hpl := right_pack hr
  have HOK := Lib.hid (right_okT hr)
  have HRR := Lib.hid hr
  clear hr
  go_wp2_with (first | (with_reducible refine wpList_loadL (NdL.of_blk HB2.out).all rfl _ rfl rfl ?_))
  refine (rbytes_any (count t) t (Nat.le_refl _) HOK.out (by omega) (.agg (ndC x)) w2 ⟨x, rfl, HN.out.below HX2.out⟩).mono ?_
  rintro e w3 ⟨v3, rfl, ho, hx⟩
  have hlv := fun W => bytes_len ho.slice W
  have HO3 := Lib.hid (ho.lower HX2.out.size)
  have HX3 := Lib.hid (belowThen HX2.out (Nat.le_refl _) hx)
  clear ho hx
  by_cases hc : 4096 < (packB t).length
  ·have hd : decide (4096 < ((packB t).length : Int)) = true := by simp; omega
   have HE := Lib.hid (show pkE t = 3 ∧ pkB t = [] by
    have : ¬ (packB t).length ≤ 4096 := by omega
    simp [pkE, pkB, HRR.out, this])
   go_wp2_with fail
   go_ret2
   exact ⟨_, by rw [HE.out.1]; rfl, by rw [HE.out.2]; exact Agg.Own.nil _ _ _, HX3.out⟩
  ·have hd : decide (4096 < ((packB t).length : Int)) = false := by simp; omega
   have HE := Lib.hid (show pkE t = 0 ∧ pkB t = packB t by
    have : (packB t).length ≤ 4096 := by omega
    simp [pkE, pkB, HRR.out, this])
   go_wp2_with fail
   go_ret2
   exact ⟨v3, by rw [HE.out.1]; rfl, by rw [HE.out.2]; exact HO3.out, HX3.out⟩
set_option maxRecDepth 100000 in
set_option maxHeartbeats 4000000 in
theorem rsize_any (vn : Value) (t : T) (hm : msz t ≤ 1048576) (w : World) (hv : NodeAt w vn t) :
  Calls Tryz.prog 25 #[vn] w fun e w' => e = .returned (.int .i64 (pkN t : Int)) ∧ Below w.heap.size w w' := by
 obtain ⟨x, rfl, hx⟩ := hv
 have HN := Lib.hid hx
 clear hx
 go_enter Tryz.func25, Tryz.ntmps25
 go_wp2_with (first | (refine wpList_box rfl 26 _ rfl (ndC x) rfl ?_; intro g1 w1 hb hx hg; have HB1 := Lib.hid hb; have HX1 := Lib.hid hx; clear hb hx hg) | (with_reducible refine wpList_loadL (NdL.of_blk HB1.out).all rfl _ rfl rfl ?_))
 refine (rright_any (.agg (ndC x)) t hm w1 ⟨x, rfl, HN.out.below HX1.out⟩).mono ?_
 rintro e w2 ⟨rfl, hx⟩
 have HB2 := Lib.hid (HB1.out.below hx)
 have HX2 := Lib.hid (belowThen HX1.out (Nat.le_refl _) hx)
 clear hx
 cases hr : right t with
 | false =>
  have HE := Lib.hid (show pkN t = 0 by simp [pkN, hr])
  clear hr
  go_wp2_with fail
  go_ret
  exact ⟨by rw [HE.out]; rfl, HX2.out⟩
 | true =>
  have hpl := right_pack hr
  have HOK := Lib.hid (right_okT hr)
  have HE := Lib.hid (show pkN t = (packB t).length by simp [pkN, hr])
  clear hr
  go_wp2_with (first | (with_reducible refine wpList_loadL (NdL.of_blk HB2.out).all rfl _ rfl rfl ?_))
  refine (rbytes_any (count t) t (Nat.le_refl _) HOK.out (by omega) (.agg (ndC x)) w2 ⟨x, rfl, HN.out.below HX2.out⟩).mono ?_
  rintro e w3 ⟨v3, rfl, ho, hx⟩
  have hlv := fun W => bytes_len ho.slice W
  have HX3 := Lib.hid (belowThen HX2.out (Nat.le_refl _) hx)
  clear ho hx
  go_wp2_with fail
  go_ret
  exact ⟨by rw [HE.out]; rfl, HX3.out⟩
end Go.Proofs.YtfiadgdinhmgbaaGreatDoor
