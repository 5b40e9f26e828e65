/- A file tree that is lent: marks behind its lists, in their spare room. (Several texts in one.) -/
import Derived.Test.YtdedpcdbnpnbeaaGreatDoorUAT
import Derived.Test.YtdedpcdbnpnbeaaGreatDoorUAJ
import Derived.Test.YtdedpcdbnpnbeaaGreatDoorUAH
import Derived.StillTailTactics
import Derived.Test.YtdedpcdbnpnbeaaGreatDoorUAO
import Derived.StillTail
import Derived.Deep.Quiet
import Derived.Test.YtdedpcdbnpnbeaaGreatDoorUAK
/-! spencelaw09.size: how great a tree is, up to a bound. -/
namespace Go.Tr
mutual
def szT : T → Nat → Nat
  | .mk _ b l, left => szL l left (1 + b.length / 20)
def szL : List K → Nat → Nat → Nat
  | [], _, all => all
  | (n, t) :: l, left, all => if all ≤ left then szL l left (all + 1 + n.length / 20 + szT t (left - all)) else all
end
mutual
theorem szT_le : ∀ (t : T) (left : Nat), szT t left ≤ msz t
  | .mk k b l, left => by
    have := szL_le l left (1 + b.length / 20)
    simp only [szT, msz]; omega
theorem szL_le : ∀ (l : List K) (left all : Nat), szL l left all ≤ all + mszL l
  | [], _, _ => by simp [szL, mszL]
  | (n, t) :: l, left, all => by
    simp only [szL, mszL]
    split
    · have h1 := szL_le l left (all + 1 + n.length / 20 + szT t (left - all))
      have h2 := szT_le t (left - all)
      omega
    · omega
end
theorem szL_step {l : List K} {q : Nat} {z : K} (h : l[q]? = some z) {left all : Nat} (hle : all ≤ left) : szL (l.drop q) left all = szL (l.drop (q + 1)) left (all + 1 + z.1.length / 20 + szT z.2 (left - all)) := by
  obtain ⟨hlt, he⟩ := List.getElem?_eq_some_iff.1 h
  rw [List.drop_eq_getElem_cons hlt, he]
  obtain ⟨n, t⟩ := z
  simp [szL, hle]
theorem szL_stop {l : List K} {q left all : Nat} (hle : ¬ all ≤ left) : szL (l.drop q) left all = all := by
  cases l.drop q with
  | nil => rfl
  | cons x m => obtain ⟨n, t⟩ := x; simp [szL, hle]
end Go.Tr
namespace Go.Proofs.YtdedpcdbnpnbeaaGreatDoor
open Go.RowKit Pl Go.Agg Go.Tr
set_option maxRecDepth 100000 in
set_option maxHeartbeats 8000000 in
theorem size_any : ∀ (N : Nat) (t : T) (_ : count t ≤ N) (_ : msz t ≤ 1048576) (left : Nat) (_ : left ≤ 1500) (v : Value) (w : World) (_ : NodeAt w v t),
    Calls Tryz.prog 4 #[v, .int .i64 (left : Int)] w fun e w' => e = .returned (.int .i64 (szT t left : Int)) ∧ Below w.heap.size w w' := by
  intro N
  induction N with
  | zero => intro t h; have := count_pos t; omega
  | succ N ih =>
  intro t hc hm left hl v w hv
  obtain ⟨x, rfl, hx⟩ := hv
  obtain ⟨k, b, l⟩ := t
  obtain ⟨hk, hby, ks, hsl, hkv⟩ := hx
  have hkl := hkv.len
  have hlb := fun W => bytes_len hby W
  have hlk := fun W => kds_len hsl W
  rw [hkl] at hlk
  have hbm := bytes_msz k b l
  have hkm := kids_msz k b l
  have hlm : mszL l ≤ 1048576 := by simp only [msz] at hm; omega
  have hb1 : b.length ≤ 1048576 := by omega
  have hl1 : l.length ≤ 1048576 := by omega
  have HIH := Lib.hid ih
  have HC := Lib.hid hc
  have HM := Lib.hid hm
  have HKV := Lib.hid hkv
  have HSL := Lib.hid hsl
  clear ih hc hm hbm hkm hby hsl hkv hk
  go_enter Tryz.func4, Tryz.ntmps4
  go_wp2_with (first | (refine Agg.wpList_box rfl 26 _ rfl (ndC x) rfl ?_; intro g2 w1 hb hx hg; have HB1 := Lib.hid hb; have HX1 := Lib.hid hx; clear hb hx hg) | (with_reducible refine Agg.wpList_loadL (NdL.of_blk HB1.out).bytes rfl _ rfl rfl ?_))
  go_loopw [5, 6] (fun a i wr => ∃ (q al : Nat), q ≤ l.length ∧ a = .int .i64 (al : Int) ∧ i = .int .i64 (q : Int) ∧ al ≤ 1048576 + 1048576 ∧ szT (.mk k b l) left = szL (l.drop q) left al ∧ Blk wr g2 26 (ndC x) ∧ Below w.heap.size w wr) (fun _ i _ => l.length - (intOf i).toNat)
  case atStart => exact ⟨0, 1 + b.length / 20, by omega, by first | rfl | (go_num), rfl, by omega, rfl, HB1.out, HX1.out⟩
  case round =>
    obtain ⟨w2, rfl⟩ : ∃ y : World, y = wr := ⟨_, rfl⟩
    obtain ⟨q, al, hq, rfl, rfl, hal, hsz, hb, hx⟩ := hrel
    have HSZ := Lib.hid hsz
    have HB := Lib.hid hb
    have HX := Lib.hid hx
    clear hsz hb hx
    by_cases hlt : q < l.length
    · have hlq : decide ((q : Int) < (l.length : Int)) = true := by simp; omega
      by_cases hle : al ≤ left
      · have hle2 : decide ((al : Int) ≤ (left : Int)) = true := by simp; omega
        obtain ⟨z, hzk⟩ : ∃ z, l[q]? = some z := ⟨_, List.getElem?_eq_getElem hlt⟩
        obtain ⟨y, hyk, hyz, hyn⟩ := HKV.out.at_ q z hzk
        obtain ⟨p, hadr, hle9⟩ := kid_at (HSL.out.below HX.out) q y hyk
        have HNM := Lib.hid hle9.name
        have HND := Lib.hid hle9.node.all
        have hmz := mem_mszL (List.mem_of_getElem? hzk)
        have hyl : y.1.length ≤ 1048576 := by rw [hyz]; omega
        have hsm : szT z.2 (left - al) ≤ 1048576 := Nat.le_trans (szT_le _ _) (by omega)
        have HST := Lib.hid (szL_step hzk hle)
        have hcz : count z.2 ≤ N := by
          have h1 := countL_mem (List.mem_of_getElem? hzk)
          have h2 := HC.out
          simp only [count] at h2
          omega
        have HYZ := Lib.hid hyz
        obtain ⟨m, hmm⟩ : ∃ m, szT z.2 (left - al) = m := ⟨_, rfl⟩
        have HCALL := Lib.hid (fun zz : Later w2 => (show Calls Tryz.prog 4 #[.agg (ndC y.2), .int .i64 ((left : Int) - (al : Int))] zz.w fun e w' => e = .returned (.int .i64 (m : Int)) ∧ Below zz.w.heap.size zz.w w' by
          have h := HIH.out z.2 hcz (by omega) (left - al) (by omega) (.agg (ndC y.2)) zz.w ⟨y.2, rfl, NodeV.below (Agg.belowThen HX.out (Nat.le_refl _) zz.h) _ _ hyn⟩
          rw [hmm, show ((left - al : Nat) : Int) = (left : Int) - (al : Int) by omega] at h
          exact h))
        rw [hmm] at hsm HST
        clear hzk hyk hyz hyn hle9 hmz hcz hmm
        go_wp2_with (first | (with_reducible refine Agg.wpList_loadL (NdL.of_blk HB.out).kids rfl _ rfl rfl ?_))
        try simp only [Act.put, List.setIfInBounds_toArray, List.set_cons_succ, List.set_cons_zero]
        refine Agg.wp_region_later_lit (by kernel_rfl) (by kernel_rfl) ?_
        repeat (first | go_big_quiet_skip | ((first | (with_reducible refine Agg.wpQuiet_loadL (NdL.of_blk HB.out).kids rfl _ rfl rfl ?_) | (with_reducible refine Agg.wpQuiet_loadL HNM.out rfl _ rfl rfl ?_) | (with_reducible refine Agg.wpQuiet_loadL HND.out rfl _ rfl rfl ?_)); simp only [Act.put, List.setIfInBounds_toArray, List.set_cons_succ, List.set_cons_zero]) | go_big_quiet_step (first | (go_at_call 4; first | (with_reducible exact Agg.Calls.later (HCALL.out _)))))
        refine wpQuiet_nil ?_
        intro _ hw'
        obtain ⟨x4, rfl⟩ := hw'
        have HX4 := Lib.hid (Agg.belowThen HX.out (Nat.le_refl _) x4.h)
        have HB4 := Lib.hid (HB.out.below x4.h)
        go_wp2_with fail
        go_roundw
        case rel => exact ⟨q + 1, al + 1 + z.1.length / 20 + m, by omega, by rw [HYZ.out]; exact congrArg (Value.int .i64) (by omega), by go_num, by have h := HYZ.out; rw [h] at hyl; omega, by rw [HSZ.out, HST.out], HB4.out, HX4.out⟩
        case measure => simp [intOf]; omega
      · have hle2 : decide ((al : Int) ≤ (left : Int)) = false := by simp; omega
        have HR := Lib.hid (show szT (.mk k b l) left = al by rw [HSZ.out, szL_stop hle])
        go_wp2_with (first | (with_reducible refine Agg.wpList_loadL (NdL.of_blk HB.out).kids rfl _ rfl rfl ?_))
        go_ret
        exact ⟨by rw [HR.out]; rfl, HX.out⟩
    · obtain rfl : q = l.length := by omega
      have hlq : decide (((l.length : Nat) : Int) < ((l.length : Nat) : Int)) = false := by simp
      have HR := Lib.hid (show szT (.mk k b l) left = al by rw [HSZ.out, List.drop_length]; rfl)
      go_wp2_with (first | (with_reducible refine Agg.wpList_loadL (NdL.of_blk HB.out).kids rfl _ rfl rfl ?_))
      go_ret
      exact ⟨by rw [HR.out]; rfl, HX.out⟩
end Go.Proofs.YtdedpcdbnpnbeaaGreatDoor
/-! spencekit.mark, markByte; slices of slices of bytes -/
namespace Go.Agg
open Go.RowKit
variable {P : Program}
end Go.Agg
namespace Go.Proofs.YtdedpcdbnpnbeaaGreatDoor
open Go.RowKit Pl Go.Agg
theorem mark_any (k i : Nat) (hk : k ≤ 16777216) (hi : i ≤ 16777216) (w : World) : Calls Tryz.prog 70 #[.int .i64 (k : Int), .int .i64 (i : Int)] w fun e w' => e = .returned (.int .i64 ((1000003 * (k + 7) + i : Nat) : Int)) ∧ w = w' := by
  go_enter Tryz.func70, Tryz.ntmps70
  go_wp2_with fail
  go_ret
  exact ⟨by simp, rfl⟩
theorem markByte_any (k i : Nat) (hk : k ≤ 16777216) (hi : i ≤ 16777216) (w : World) : Calls Tryz.prog 32 #[.int .i64 (k : Int), .int .i64 (i : Int)] w fun e w' => e = .returned (.int .u8 ((mkB k i).toNat : Int)) ∧ w' = w := by
  go_enter Tryz.func32, Tryz.ntmps32
  go_wp2_with fail
  refine (mark_any k i hk hi _).mono ?_
  rintro e w1 ⟨rfl, rfl⟩
  go_wp2_with fail
  go_ret
  exact ⟨ret_u8 (mkB_int k i), rfl⟩
end Go.Proofs.YtdedpcdbnpnbeaaGreatDoor
/-! spencekit.markText, markNamed. -/
namespace Go.Proofs.YtdedpcdbnpnbeaaGreatDoor
open Go.RowKit Pl Go.Agg
def mkT (k i : Nat) : List UInt8 := [35, UInt8.ofNat k, UInt8.ofNat (k / 256), UInt8.ofNat (k / 65536), 47, UInt8.ofNat i, UInt8.ofNat (i / 256), UInt8.ofNat (i / 65536)]
theorem mkT_flat (k i : Nat) : EB.flat (mkT k i) = [.int .u8 35, .int .u8 ((k : Int) % 256), .int .u8 ((k : Int) / 256 % 256), .int .u8 ((k : Int) / 65536 % 256), .int .u8 47, .int .u8 ((i : Int) % 256), .int .u8 ((i : Int) / 256 % 256), .int .u8 ((i : Int) / 65536 % 256)] := by
  have h : ∀ x : UInt8, EB.cs x = [.int .u8 (x.toNat : Int)] := fun _ => rfl
  have h2 : ∀ n : Nat, ((UInt8.ofNat n).toNat : Int) = (n : Int) % 256 := fun n => by simp
  simp only [Elem.flat, mkT, List.flatMap_cons, List.flatMap_nil, h, List.singleton_append, List.append_nil, h2]
  simp
theorem mkT_at (k i : Nat) (w : World) : BytesAt (w.alloc (.cells #[.int .u8 35, .int .u8 ((k : Int) % 256), .int .u8 ((k : Int) / 256 % 256), .int .u8 ((k : Int) / 65536 % 256), .int .u8 47, .int .u8 ((i : Int) % 256), .int .u8 ((i : Int) / 256 % 256), .int .u8 ((i : Int) / 65536 % 256)] 5)) (.slice (some ⟨w.heap.size, 0, none⟩) 8 8) (mkT k i) := by
  refine .inr ⟨_, 8, rfl, (Blk.new w _ _).lt, fun j u hj => ?_⟩
  rw [mkT_flat] at hj
  rw [add_plain, Nat.zero_add, (Blk.new w _ _).cell]
  simpa using hj
set_option maxRecDepth 100000 in
set_option maxHeartbeats 1000000 in
theorem markText_any (k i : Nat) (w : World) : Calls Tryz.prog 71 #[.int .i64 (k : Int), .int .i64 (i : Int)] w fun e w' => e = .returned (.string ⟨(mkT k i).toArray⟩) ∧ Below w.heap.size w w' := by
  go_enter Tryz.func71, Tryz.ntmps71
  have HM := Lib.hid (mkT_at k i w)
  go_wp2_with (first | (with_reducible refine wpList_toStr HM.out _ rfl (by kernel_rfl) rfl ?_))
  go_ret
  exact ⟨rfl, (Below.refl _ _).alloc (Nat.le_refl _) _⟩
end Go.Proofs.YtdedpcdbnpnbeaaGreatDoor
/-! spencekit.markKid. -/
namespace Go.Proofs.YtdedpcdbnpnbeaaGreatDoor
open Go.RowKit Pl Go.Agg Go.Tr
set_option maxRecDepth 100000 in
set_option maxHeartbeats 4000000 in
theorem markKid_any (k i : Nat) (w : World) : Calls Tryz.prog 34 #[.int .i64 (k : Int), .int .i64 (i : Int)] w fun e w' => e = .returned (.agg (kdC (mkT k i, ndZ))) ∧ Below w.heap.size w w' := by
  go_enter Tryz.func34, Tryz.ntmps34
  go_wp2_with (first | (refine Agg.wpList_zero rfl 40 rfl (kdC kdZ) kd_zero ?_; intro g4 w1 hb hx hg; have HB1 := Lib.hid hb; have HX1 := Lib.hid hx; have HG := Lib.hid (show w.heap.size ≤ g4 from hg); clear hb hx hg))
  refine (markText_any k i w1).mono ?_
  rintro e w2 ⟨rfl, hx⟩
  have HB2 := Lib.hid (HB1.out.below hx)
  have HX2 := Lib.hid (Agg.belowThen HX1.out (Nat.le_refl _) hx)
  clear hx
  go_wp2_with (first | (with_reducible refine Agg.wpList_build1 40 0 _ rfl rfl (.string ⟨(mkT k i).toArray⟩) rfl (.agg (kdC (mkT k i, ndZ))) (kd_build1 _) ?_) | (refine Agg.wpList_put rfl rfl 40 _ _ rfl g4 (kdC (mkT k i, ndZ)) (kdC kdZ) rfl rfl HB2.out (kd_info _) rfl (kdC_one _) ?_; intro w3 hb hx hs9 hk; have ho9 := Only.of_eq (S := (· = g4)) hx hs9 hk rfl; have HF := Lib.hid hb; have HXF := Lib.hid (HX2.out.trans (ho9.below (B := w.heap.size) HX2.out.size (fun i hi => by subst hi; exact HG.out))); clear hb hx hs9 hk ho9))
  exact Agg.post_row rfl rfl HF.out kd_under rfl (kd_info _) rfl ⟨rfl, HXF.out⟩
end Go.Proofs.YtdedpcdbnpnbeaaGreatDoor
/-! (of general use) spencekit.LentBytes. -/
namespace Go.Proofs.YtdedpcdbnpnbeaaGreatDoor
open Go.RowKit Pl Go.Agg
/-- a list with marks behind it, in its spare room -/
def Lent {α : Type} (E : Elem Tryz.prog α) (M : List α) (base : Nat) (w : World) (u : Value) (l : List α) : Prop :=
  ∃ g cap, u = .slice (some ⟨g, 0, none⟩) l.length cap ∧ base ≤ g ∧ l.length + M.length ≤ cap ∧ SliceOf E w (.slice (some ⟨g, 0, none⟩) (l.length + M.length) cap) (l ++ M)
/-- .. in a block of its own -/
def LentO {α : Type} (E : Elem Tryz.prog α) (M : List α) (base : Nat) (w : World) (u : Value) (l : List α) : Prop :=
  ∃ g cap, u = .slice (some ⟨g, 0, none⟩) l.length cap ∧ Own E base w (.slice (some ⟨g, 0, none⟩) (l.length + M.length) cap) (l ++ M)
theorem LentO.lent {α : Type} {E : Elem Tryz.prog α} {M l : List α} {base : Nat} {w : World} {u : Value} (h : LentO E M base w u l) (_hM : 0 < M.length) : Lent E M base w u l := by
  obtain ⟨g, cap, rfl, ho⟩ := h
  have hs := ho.slice
  obtain ⟨_, ⟨h, _⟩ | ⟨g', cap', cur, hv, hgb, hcur, hle, _⟩⟩ := ho
  · cases h
  · injection hv with h1 h2 h3
    injection h1 with h1
    injection h1 with h1
    subst h1 h3
    exact ⟨g, cap, rfl, hgb, by rw [← List.length_append]; exact hle, hs⟩
theorem LentO.of_own {α : Type} {E : Elem Tryz.prog α} {M l : List α} {base : Nat} {w : World} {v : Value} (h : Own E base w v (l ++ M)) (hM : 0 < M.length) : ∃ g cap, v = .slice (some ⟨g, 0, none⟩) (l.length + M.length) cap ∧ l.length + M.length ≤ cap ∧ LentO E M base w (.slice (some ⟨g, 0, none⟩) l.length cap) l := by
  have ho := h
  obtain ⟨hfl, ⟨rfl, h0⟩ | ⟨g, cap, cur, rfl, hgb, hcur, hle, _⟩⟩ := h
  · rw [List.length_append] at h0; omega
  · rw [List.length_append] at hle ho ⊢
    exact ⟨g, cap, rfl, hle, g, cap, rfl, ho⟩
theorem Lent.of_own {α : Type} {E : Elem Tryz.prog α} {M l : List α} {base : Nat} {w : World} {v : Value} (h : Own E base w v (l ++ M)) (hM : 0 < M.length) : ∃ g cap, v = .slice (some ⟨g, 0, none⟩) (l.length + M.length) cap ∧ l.length + M.length ≤ cap ∧ Lent E M base w (.slice (some ⟨g, 0, none⟩) l.length cap) l := by
  have hs := h.slice
  obtain ⟨hfl, ⟨rfl, h0⟩ | ⟨g, cap, cur, rfl, hgb, hcur, hle, _⟩⟩ := h
  · rw [List.length_append] at h0; omega
  · rw [List.length_append] at hs hle ⊢
    exact ⟨g, cap, rfl, hle, g, cap, rfl, hgb, hle, hs⟩
theorem LentO.keepT {α : Type} {E : Elem Tryz.prog α} {M l : List α} {base : Nat} {w w' : World} {u : Value} (h : LentO E M base w u l) (hk : ∀ (g : Nat) (cur : Array Value) (fr : Nat × Nat), w.heap[g]? = some (Obj.cells cur E.ty fr) → w'.heap[g]? = some (Obj.cells cur E.ty fr)) : LentO E M base w' u l := by
  obtain ⟨g, cap, rfl, ho⟩ := h
  obtain ⟨hfl, h | ⟨g', cap', cur, hv, hb, hc, hr⟩⟩ := ho
  · exact ⟨g, cap, rfl, hfl, .inl h⟩
  · exact ⟨g, cap, rfl, hfl, .inr ⟨g', cap', cur, hv, hb, hk g' cur _ hc, hr⟩⟩
theorem LentO.below {α : Type} {E : Elem Tryz.prog α} {M l : List α} {base : Nat} {w w' : World} {u : Value} (h : LentO E M base w u l) (hb : Below w.heap.size w w') : LentO E M base w' u l := h.keepT fun _ _ _ hg => keep' hb hg
theorem LentO.lower {α : Type} {E : Elem Tryz.prog α} {M l : List α} {base b' : Nat} {w : World} {u : Value} (h : LentO E M base w u l) (hb : b' ≤ base) : LentO E M b' w u l := by
  obtain ⟨g, cap, rfl, ho⟩ := h
  exact ⟨g, cap, rfl, ho.lower hb⟩
theorem sliceOf_prefix {α : Type} {E : Elem Tryz.prog α} {w : World} {p : Option Addr} {cap : Nat} {l M : List α} (h : SliceOf E w (.slice p (l.length + M.length) cap) (l ++ M)) : SliceOf E w (.slice p l.length cap) l := by
  rcases h with ⟨q, c, hv, hl⟩ | ⟨q, c, hv, hp, hc⟩
  · obtain ⟨rfl, _⟩ := List.append_eq_nil_iff.1 hl
    exact SliceOf.nil _ _ _
  · simp only [Value.slice.injEq] at hv
    obtain ⟨rfl, _, rfl⟩ := hv
    refine .inr ⟨_, _, rfl, hp, fun j u hj => hc j u ?_⟩
    rw [Elem.flat_append, List.getElem?_append_left (List.getElem?_eq_some_iff.1 hj).1]
    exact hj
theorem LentO.form {α : Type} {E : Elem Tryz.prog α} {M l : List α} {base : Nat} {w : World} {u : Value} (h : LentO E M base w u l) : ∃ p n c, u = .slice p n c := by
  obtain ⟨g, cap, rfl, _⟩ := h
  exact ⟨_, _, _, rfl⟩
end Go.Proofs.YtdedpcdbnpnbeaaGreatDoor
/-! spencekit.LentBytes. -/
namespace Go.Proofs.YtdedpcdbnpnbeaaGreatDoor
open Go.RowKit Pl Go.Agg
set_option maxRecDepth 100000 in
set_option maxHeartbeats 1000000 in
theorem lentBytes_own (v : Value) (b : List UInt8) (hb : b.length ≤ 1048576) (w : World) (he : BytesAt w v b) :
    Calls Tryz.prog 17 #[v] w fun e w' => ∃ u, e = .returned u ∧ Below w.heap.size w w' ∧ LentO EB (marks 1 12) w.heap.size w' u b := by
  have hlv := fun W => bytes_len he W
  have HE := Lib.hid he
  clear he
  have hc : b.length + 12 ≤ 1099511627776 / 8 := by omega
  go_enter Tryz.func17, Tryz.ntmps17
  go_wp2_with (first | (refine Agg.wpList_make0 (base := w.heap.size) EB rfl .i64 .i64 _ (b.length + 12) rfl rfl hc (by decide) (Nat.le_refl _) ?_; intro v1 w1 ho1 hx1) | (at_builtin; refine Agg.walk_stop ?_))
  refine ⟨?_, trivial⟩
  have h63 : ([] : List UInt8).length + b.length ≤ 1099511627776 / 8 := by simp; omega
  refine Agg.wpList_appendS (E := EB) rfl _ _ rfl v rfl rfl b ho1 (SliceOf.below HE.out hx1) h63 (by decide) hx1.size ?_
  intro v2 w2 ho2 hp2 _
  rw [List.nil_append] at ho2
  have hx2 := hx1.trans (hp2.below w.heap.size (Nat.le_refl _) hx1.size)
  simp only [Act.put, List.setIfInBounds_toArray, List.set_cons_succ, List.set_cons_zero]
  clear ho1 hp2 hx1
  go_wp2_with fail
  go_loopw [3, 4] (fun out i wr => ∃ k : Nat, k ≤ 12 ∧ i = .int .i64 k ∧ Own EB w.heap.size wr out (b ++ marks 1 k) ∧ Below w.heap.size w wr) (fun _ i _ => 12 - (intOf i).toNat)
  case atStart => exact ⟨0, by omega, rfl, by simpa [marks] using ho2, hx2⟩
  case round =>
    clear ho2 hx2
    obtain ⟨w3, rfl⟩ : ∃ w3 : World, w3 = wr := ⟨_, rfl⟩
    obtain ⟨k, hk, rfl, ho, hw⟩ := hrel
    have HO := Lib.hid ho
    have HW := Lib.hid hw
    clear ho hw
    by_cases hlt : k < 12
    · have h63 : (b ++ marks 1 k).length + 1 ≤ 1099511627776 / 8 := by rw [List.length_append, marks_length]; omega
      have hsz := HW.out.size
      go_wp2_with fail
      refine (markByte_any 1 k (by omega) (by omega) _).mono ?_
      rintro e w4 ⟨rfl, rfl⟩
      go_wp2_with (first | (refine Agg.wpList_push (E := EB) (base := w.heap.size) rfl rfl 19 rfl _ rfl _ rfl (mkB 1 k) rfl (fun _ => rfl) (by simp) HO.out h63 (by decide) hsz ?_; intro u5 v5 w5 ho5 hp5))
      rw [List.append_assoc, ← marks_succ] at ho5
      go_wp2_with fail
      go_roundw
      case rel => exact ⟨k + 1, by omega, by go_num, ho5, HW.out.trans (hp5.below w.heap.size (Nat.le_refl _) hsz)⟩
      case measure => simp [intOf]; omega
    · obtain rfl : k = 12 := by omega
      obtain ⟨g, cap, rfl, hcap, hlent⟩ := LentO.of_own HO.out (by rw [marks_length]; omega)
      rw [marks_length] at hcap
      have hcap2 : b.length ≤ cap := by omega
      have HLT := Lib.hid hlent
      clear hlent
      go_wp2_with fail
      go_ret
      exact ⟨_, rfl, HW.out, HLT.out⟩
theorem lentBytes_any (v : Value) (b : List UInt8) (hb : b.length ≤ 1048576) (w : World) (he : BytesAt w v b) :
    Calls Tryz.prog 17 #[v] w fun e w' => ∃ u, e = .returned u ∧ Below w.heap.size w w' ∧ Lent EB (marks 1 12) w.heap.size w' u b :=
  (lentBytes_own v b hb w he).mono fun _ _ ⟨u, he, hb, hl⟩ => ⟨u, he, hb, hl.lent (by rw [marks_length]; omega)⟩
end Go.Proofs.YtdedpcdbnpnbeaaGreatDoor
/-! A region that draws its order, in three parts: a quiet head in one class of worlds, a row of operations one behind the other, a quiet end in another class. Over any program. -/
namespace Go.Agg
variable {P : Program} {ops : Array Oper} {md : Region.Mode} {C : World → Prop}
def pre (N k : Nat) : Array Bool := (List.replicate k true ++ List.replicate (N - k) false).toArray
theorem pre_zero (N : Nat) : pre N 0 = Array.replicate N false := by simp [pre]
theorem pre_size {N k : Nat} (h : k ≤ N) : (pre N k).size = N := by simp [pre]; omega
theorem pre_get {N k : Nat} (h : k ≤ N) (t : Nat) (d : Bool) : (pre N k).getD t d = if t < k then true else if t < N then false else d := by
  unfold pre
  rw [Array.getD_eq_getD_getElem?]
  simp only [List.getElem?_toArray]
  by_cases h1 : t < k
  · rw [List.getElem?_append_left (by simpa using h1), List.getElem?_replicate, if_pos h1, if_pos h1]; rfl
  · rw [List.getElem?_append_right (by simpa using h1), List.getElem?_replicate, if_neg h1]
    by_cases h2 : t < N
    · rw [if_pos h2, if_pos (by simp; omega)]; rfl
    · rw [if_neg h2, if_neg (by simp; omega)]; rfl
theorem pre_set {N k : Nat} (h : k < N) : (pre N k).setIfInBounds k true = pre N (k + 1) := by
  apply Array.ext_getElem?
  intro t
  have e1 := pre_get (N := N) (k := k) (by omega)
  unfold pre
  simp only [List.setIfInBounds_toArray, List.getElem?_toArray]
  rw [show N - k = (N - (k + 1)) + 1 by omega, List.replicate_succ, List.set_append_right _ _ (by simp)]
  simp only [List.length_replicate, Nat.sub_self, List.set_cons_zero]
  rw [List.replicate_succ', List.append_assoc, List.singleton_append]
/-- the tail waits for its first one -/
def treeB (md : Region.Mode) (ops : Array Oper) (n : Nat) : Bool :=
  (List.range ops.size).all fun t => decide (t ≤ n) || (List.range t).any fun j => decide (n ≤ j) && Region.waitsFor md ops t j
def closedB (md : Region.Mode) (ops : Array Oper) (k : Nat) : Bool :=
  (List.range k).all fun j => match ops[j]? with | some oj => oj.after.all fun e => !Region.binds md e || decide (e.on < k) | none => true
def headB (md : Region.Mode) (ops : Array Oper) : Nat → Nat → Array Bool → Bool
  | 0, _, _ => true
  | f + 1, k, listed => (Region.ready md ops listed).contains k && Region.free md ops listed k && headB md ops f (k + 1) (listed.setIfInBounds k true)
def cutB (md : Region.Mode) (ops : Array Oper) (k n : Nat) : Bool :=
  decide (n < ops.size) && Region.sinkB md ops n && treeB md ops n && closedB md ops k && headB md ops (n - k) k (pre ops.size k)
def rowB (md : Region.Mode) (ops : Array Oper) : Nat → Nat → Array Bool → Bool
  | 0, _, _ => true
  | g + 1, k, listed => decide (Region.ready md ops listed = [k]) && rowB md ops g (k + 1) (listed.setIfInBounds k true)
theorem waits {n : Nat} {listed : Array Bool} (hs : Region.sinkB md ops n = true) (hc : treeB md ops n = true) (inv : HeadInv md ops n listed) :
    ∀ (d i : Nat), n - i = d → i < n → listed.getD i true = false → ∀ t, n ≤ t → t ∉ Region.ready md ops listed := by
  intro d
  induction d using Nat.strongRecOn with
  | _ d ih =>
    intro i hd hi hun t ht hr
    obtain ⟨_, ot, hot, hall⟩ := mem_ready.1 hr
    have htlt : t < ops.size := (Array.getElem?_eq_some_iff.1 hot).1
    by_cases htn : t = n
    · subst htn
      obtain ⟨j, hj, hj2⟩ := List.any_eq_true.1 (List.all_eq_true.1 hs i (List.mem_range.2 hi))
      simp only [Bool.and_eq_true, decide_eq_true_eq] at hj2
      obtain ⟨oj, hoj, e, he, hb, hon⟩ := Region.waitsFor_spec hj2.2
      have hjle : j ≤ t := by have := List.mem_range.1 hj; omega
      by_cases hjt : j = t
      · subst hjt
        obtain rfl : oj = ot := Option.some.inj (hoj.symm.trans hot)
        have h2 := hall e he hb
        rw [hon, getD_both hun] at h2
        cases h2
      · cases hl : listed.getD j false with
        | true =>
          have h2 := inv.closed j oj hoj hl e he hb
          rw [hon, getD_both hun] at h2
          cases h2
        | false => exact ih (t - j) (by omega) j rfl (by omega) (getD_in (by rw [inv.size]; omega) hl) t (Nat.le_refl _) hr
    · have h1 := List.all_eq_true.1 hc t (List.mem_range.2 htlt)
      simp only [Bool.or_eq_true, decide_eq_true_eq] at h1
      rcases h1 with h1 | h1
      · omega
      · obtain ⟨j, hj, hj2⟩ := List.any_eq_true.1 h1
        simp only [Bool.and_eq_true, decide_eq_true_eq] at hj2
        obtain ⟨o', ho', e, he, hb, hon⟩ := Region.waitsFor_spec hj2.2
        obtain rfl : o' = ot := Option.some.inj (ho'.symm.trans hot)
        have h2 := hall e he hb
        have hjt := List.mem_range.1 hj
        rw [hon, getD_both (inv.tail j hj2.1 (by omega))] at h2
        cases h2
/-- whatever order, f operations of the head -/
def anyHead (P : Program) (md : Region.Mode) (ops : Array Oper) (C : World → Prop) (n : Nat) (L : Array Bool → Act → Prop) : Nat → Array Bool → Act → Prop
  | 0, listed, a => L listed a
  | f + 1, listed, a => Region.ready md ops listed ≠ [] ∧ ∀ i ∈ Region.ready md ops listed, i < n ∧ qOp P ops C i (anyHead P md ops C n L f (listed.setIfInBounds i true)) a
theorem any_of_head {n g : Nat} {L : Array Bool → Act → Prop} {Q' : Exit → Act → World → Prop} (hL : ∀ listed a w, C w → L listed a → wpAny P md ops Q' g listed a w) :
    ∀ (f : Nat) (listed : Array Bool) (a : Act) (w : World), C w → anyHead P md ops C n L f listed a → wpAny P md ops Q' (f + g) listed a w
  | 0, listed, a, w, hw, h => by rw [Nat.zero_add]; exact hL _ _ _ hw h
  | f + 1, listed, a, w, hw, h => by
    rw [show f + 1 + g = (f + g) + 1 by omega]
    exact ⟨fun h0 => absurd h0 h.1, fun i hi => wpOp_of_qOp hw (fun a' w' hw' h' => any_of_head hL f _ a' w' hw' h') (h.2 i hi).2⟩
theorem head_first {n i : Nat} {oi : Oper} {v : Value} {L : Array Bool → Act → Prop} (hi : ops[i]? = some oi) (hsel : ∀ (j : Nat) (o : Oper) cs b, ops[j]? = some o → o.op ≠ .select cs b)
    (hs : Region.sinkB md ops n = true) (hc : treeB md ops n = true) (hin : i < n) (hdone : ∀ listed a, L listed a → ∀ j ∈ Region.ready md ops listed, n ≤ j) :
    ∀ (f : Nat) (listed : Array Bool) (a : Act), HeadInv md ops n listed →
      (∀ j oj, ops[j]? = some oj → j ≠ i → listed.getD j true = false → (∀ e ∈ oj.after, Region.binds md e = true → e.on ≠ i) → oi.apart ops oj = true) →
      i ∈ Region.ready md ops listed → YieldsIn P ops C oi v a →
      anyHead P md ops C n L f (listed.setIfInBounds i true) (a.put oi.dst v) → anyHead P md ops C n L (f + 1) listed a := by
  intro f
  induction f with
  | zero =>
    intro listed a inv _ hr hy H
    have hun := (mem_ready.1 hr).1
    refine ⟨fun h => (by rw [h] at hr; cases hr), fun j hj => ?_⟩
    have hjn : j < n := (Nat.lt_or_ge j n).resolve_right fun h => waits hs hc inv _ i rfl hin hun j h hj
    refine ⟨hjn, ?_⟩
    by_cases hji : j = i
    · subst hji; exact hy.qOp hi H
    · have := hdone _ _ H j (ready_mono hj hji)
      omega
  | succ f ih =>
    intro listed a inv hfree hr hy H
    have hun := (mem_ready.1 hr).1
    refine ⟨fun h => (by rw [h] at hr; cases hr), fun j hj => ?_⟩
    have hjn : j < n := (Nat.lt_or_ge j n).resolve_right fun h => waits hs hc inv _ i rfl hin hun j h hj
    refine ⟨hjn, ?_⟩
    by_cases hji : j = i
    · subst hji; exact hy.qOp hi H
    · have h1 := (H.2 j (ready_mono hj hji)).2
      obtain ⟨hjun, oj, hoj, hall⟩ := mem_ready.1 hj
      have hnot : ∀ e ∈ oj.after, Region.binds md e = true → e.on ≠ i := fun e he hb heq => by
        have h1 := hall e he hb
        rw [heq, getD_both hun] at h1
        cases h1
      have h2 := qOp_put hoj (hfree j oj hoj hji hjun hnot) (fun cs b => hsel i oi cs b hi) (fun cs b => hsel j oj cs b hoj) hy h1
      refine qOp_mono (fun a' h3 => ih (listed.setIfInBounds j true) a' (inv.set hj hjn) (fun k ok hk hki hun' hno => hfree k ok hk hki ?_ hno) (ready_mono hr (Ne.symm hji)) h3.1 ?_) h2
      · by_cases hjk : j = k
        · subst hjk; exact hjun
        · rw [getD_set_ne true hjk] at hun'; exact hun'
      · rw [Array.setIfInBounds_comm _ _ hji]
        exact h3.2
theorem head_lex {n : Nat} {Lq : Act → Prop} (hsel : Region.noSelect ops = true) (hs : Region.sinkB md ops n = true) (hc : treeB md ops n = true) (hn : n < ops.size) :
    ∀ (l : List Oper) (k : Nat) (a : Act), (∀ j, j < l.length → l[j]? = ops[k + j]?) → k + l.length = n → HeadInv md ops n (pre ops.size k) →
    headB md ops l.length k (pre ops.size k) = true → wpQuiet P ops C Lq l a →
    anyHead P md ops C n (fun listed' a' => listed' = pre ops.size n ∧ Lq a') l.length (pre ops.size k) a
  | [], k, a, _, hk, _, hB, h => by
    obtain rfl : k = n := by simpa using hk
    exact ⟨rfl, h⟩
  | o :: l, k, a, hl, hk, inv, hB, h => by
    have h0 : ops[k]? = some o := by simpa using (hl 0 (by simp)).symm
    simp only [List.length_cons, headB, Bool.and_eq_true] at hB
    obtain ⟨⟨hr, hf⟩, hB'⟩ := hB
    have hkn : k < n := by simp only [List.length_cons] at hk; omega
    have hr' : k ∈ Region.ready md ops (pre ops.size k) := by simpa using hr
    have hst : qOp P ops C k (wpQuiet P ops C Lq l) a := by unfold qOp; simp only [h0]; exact h
    obtain ⟨v, hy, hK⟩ := yieldsIn_of_qOp h0 hst
    have hset : (pre ops.size k).setIfInBounds k true = pre ops.size (k + 1) := pre_set (by omega)
    have inv' := inv.set hr' hkn
    rw [hset] at hB' inv'
    refine head_first h0 (Region.noSelect_spec hsel) hs hc hkn (fun listed' a' hL j hj => ?_) l.length _ a inv (Region.free_spec h0 hf) hr' hy ?_
    · have h1 := (mem_ready.1 hj).1
      rw [hL.1, pre_get (by omega)] at h1
      by_cases hjn : j < n
      · rw [if_pos hjn] at h1; cases h1
      · omega
    · rw [hset]
      exact head_lex hsel hs hc hn l (k + 1) _ (fun j hj => by have := hl (j + 1) (by simp; omega); simpa [Nat.add_assoc, Nat.add_comm 1 j] using this) (by simp only [List.length_cons] at hk; omega) inv' hB' hK
theorem seg_quiet {k n g : Nat} {Lq : Act → Prop} {Q' : Exit → Act → World → Prop} (hsel : Region.noSelect ops = true) (hB : cutB md ops k n = true)
    (hL : ∀ a w, C w → Lq a → wpAny P md ops Q' g (pre ops.size n) a w) (l : List Oper) (hl : ∀ j, j < l.length → l[j]? = ops[k + j]?) (hk : k + l.length = n) {a : Act} {w : World} (h : wpQuiet P ops C Lq l a) (hw : C w) :
    wpAny P md ops Q' (l.length + g) (pre ops.size k) a w := by
  simp only [cutB, Bool.and_eq_true, decide_eq_true_eq] at hB
  obtain ⟨⟨⟨⟨hn, hs⟩, hc⟩, hcl⟩, hh⟩ := hB
  have hkN : k ≤ ops.size := by omega
  have inv : HeadInv md ops n (pre ops.size k) := by
    refine ⟨pre_size hkN, fun j oj hoj hj e he hb => ?_, fun t ht ht' => ?_⟩
    · rw [pre_get hkN] at hj ⊢
      have hjk : j < k := by
        by_cases h : j < k
        · exact h
        · rw [if_neg h] at hj; split at hj <;> cases hj
      have h1 := List.all_eq_true.1 hcl j (List.mem_range.2 hjk)
      rw [hoj] at h1
      have h2 := Array.all_eq_true_iff_forall_mem.1 h1 e he
      simp only [hb, Bool.not_true, Bool.false_or, decide_eq_true_eq] at h2
      rw [if_pos h2]
    · rw [pre_get hkN, if_neg (by omega), if_pos ht']
  rw [show n - k = l.length by omega] at hh
  exact any_of_head (fun listed a w hw hL' => hL'.1 ▸ hL a w hw hL'.2) _ _ _ _ hw (head_lex hsel hs hc hn l k a hl hk inv hh h)
/-- what follows a row -/
def thenK (Q : Exit → Act → World → Prop) (K : Act → World → Prop) : Exit → Act → World → Prop
  | .normal, a, w => K a w
  | e, a, w => Q e a w
theorem wpOp_thenK {Q : Exit → Act → World → Prop} {K K' : Act → World → Prop} {i : Nat} {a : Act} {w : World} (h : wpOp P ops (thenK Q K) i K' a w) : wpOp P ops Q i K' a w := by
  unfold wpOp at *
  split
  · rename_i ho; simpa [ho] using h
  · rename_i o ho
    simp only [ho] at h
    split
    · rename_i hw
      simp only [hw, if_true] at h
      rcases h with h | ⟨h1, a', w', h2⟩
      · refine .inl ?_
        unfold Oper.wp at *
        generalize (execOp a.eval o).run P w = r at *
        cases r with
        | ok n w' =>
          cases n <;> simp only [Oper.upon] at h ⊢ <;>
            first
              | exact h
              | exact Calls.mono h (fun e w'' he => by
                  cases e <;> first | exact he | (obtain ⟨a', w', h2⟩ := he; exact ⟨a', w', h2⟩))
        | halt x w' => cases x <;> simp only [Oper.upon] at h ⊢ <;> exact h
      · exact .inr ⟨h1, a', w', h2⟩
    · rename_i hw; simpa [hw] using h
theorem seg_row {g : Nat} {Q' : Exit → Act → World → Prop} {K : Act → World → Prop} {n : Nat} (hL : ∀ a w, K a w → wpAny P md ops Q' g (pre ops.size n) a w) : ∀ (l : List Oper) (k : Nat) (a : Act) (w : World),
    (∀ j, j < l.length → l[j]? = ops[k + j]?) → k + l.length = n → n ≤ ops.size → rowB md ops l.length k (pre ops.size k) = true → wpList P ops (thenK Q' K) l a w → wpAny P md ops Q' (l.length + g) (pre ops.size k) a w
  | [], k, a, w, _, hk, _, _, h => by
    obtain rfl : k = n := by simpa using hk
    rw [show ([] : List Oper).length + g = g by simp]
    exact hL _ _ h
  | o :: l, k, a, w, hl, hk, hn, hB, h => by
    have h0 : ops[k]? = some o := by simpa using (hl 0 (by simp)).symm
    simp only [List.length_cons, rowB, Bool.and_eq_true, decide_eq_true_eq] at hB hk
    rw [show (o :: l).length + g = (l.length + g) + 1 by simp; omega]
    refine ⟨fun h1 => (by rw [hB.1] at h1; cases h1), fun i hi => ?_⟩
    rw [hB.1] at hi
    obtain rfl : i = k := by simpa using hi
    have hw : wpOp P ops (thenK Q' K) i (wpList P ops (thenK Q' K) l) a w := by unfold wpOp; simp only [h0]; exact h
    have hset : (pre ops.size i).setIfInBounds i true = pre ops.size (i + 1) := pre_set (by omega)
    have hB2 := hB.2
    rw [hset] at hB2
    refine wpOp_mono (fun a' w' h' => ?_) (wpOp_thenK hw)
    rw [hset]
    exact seg_row hL l (i + 1) a' w' (fun j hj => by have := hl (j + 1) (by simp; omega); simpa [Nat.add_assoc, Nat.add_comm 1 j] using this) (by omega) hn hB2 h'
def midB (md : Region.Mode) (ops : Array Oper) (n m : Nat) : Bool :=
  Region.noSelect ops && decide (n < m) && decide (m < ops.size) && cutB md ops 0 n && rowB md ops (m - n) n (pre ops.size n) && Region.lexFrom md ops (ops.size - m) m (pre ops.size m)
/-- HEAD, ROW, END -/
theorem wp_region_mid {id : Nat} {Q : Exit → Act → World → Prop} {a : Act} {w : World} {l : List Oper} (n m : Nat) (C : World → Prop) (hm : P.follows .mixedOrders = true) (hB : midB .any l.toArray n m = true) (hC : C w.drew)
    (h : wpQuiet P l.toArray C (fun a' => ∀ w', C w' → wpList P l.toArray (thenK Q fun a2 w2 => ∃ C2 : World → Prop, C2 w2 ∧ wpQuiet P l.toArray C2 (fun a3 => ∀ w3, C2 w3 → Q .normal a3 w3) (l.drop m) a2) ((l.drop n).take (m - n)) a' w') (l.take n) a) :
    (Code.region id l.toArray true).wp P Q a w := by
  simp only [midB, Bool.and_eq_true, decide_eq_true_eq] at hB
  obtain ⟨⟨⟨⟨⟨hsel, hnm⟩, hms⟩, hc⟩, hr⟩, hx⟩ := hB
  have hms' : m < l.length := by simpa using hms
  refine wp_region_any hm ?_
  have hend : ∀ a2 w2, (∃ C2 : World → Prop, C2 w2 ∧ wpQuiet P l.toArray C2 (fun a3 => ∀ w3, C2 w3 → Q .normal a3 w3) (l.drop m) a2) → wpAny P .any l.toArray Q (l.length - m) (pre l.toArray.size m) a2 w2 := by
    rintro a2 w2 ⟨C2, h2, hq⟩
    have h3 := wpAnyQ_lex (C := C2) (md := .any) hsel (l.drop m) m (pre l.toArray.size m) a2 (fun j => by simp [List.getElem?_drop]) (by simpa using hx) hq
    have := wpAny_of_quiet (Q' := Q) (Q := fun a3 => ∀ w3, C2 w3 → Q .normal a3 w3) (fun _ w' hw' h => h w' hw') _ _ _ _ h2 h3
    simpa using this
  have hrow : ∀ a' w', C w' → (∀ w', C w' → wpList P l.toArray (thenK Q fun a2 w2 => ∃ C2 : World → Prop, C2 w2 ∧ wpQuiet P l.toArray C2 (fun a3 => ∀ w3, C2 w3 → Q .normal a3 w3) (l.drop m) a2) ((l.drop n).take (m - n)) a' w') →
      wpAny P .any l.toArray Q (l.length - n) (pre l.toArray.size n) a' w' := by
    intro a' w' hw' h'
    have hlen : ((l.drop n).take (m - n)).length = m - n := by simp; omega
    have := seg_row (md := .any) (n := m) hend ((l.drop n).take (m - n)) n a' w' (fun j hj => by
      rw [hlen] at hj
      simp [hj]) (by rw [hlen]; omega) (by simp; omega) (by rw [hlen]; exact hr) (h' w' hw')
    rw [hlen, show m - n + (l.length - m) = l.length - n by omega] at this
    exact this
  have hlen : (l.take n).length = n := by simp; omega
  have := seg_quiet (md := .any) (k := 0) (n := n) hsel hc hrow (l.take n) (fun j hj => by
    rw [hlen] at hj
    simp [hj]) (by rw [hlen]; omega) h hC
  rw [hlen, show n + (l.length - n) = l.length by omega, pre_zero] at this
  exact this
def rowEndB (md : Region.Mode) (ops : Array Oper) (n : Nat) : Bool :=
  Region.noSelect ops && decide (n < ops.size) && cutB md ops 0 n && rowB md ops (ops.size - n) n (pre ops.size n) && (Region.ready md ops (pre ops.size ops.size)).isEmpty
/-- HEAD, ROW -/
theorem wp_region_row {id : Nat} {Q : Exit → Act → World → Prop} {a : Act} {w : World} {l : List Oper} (n : Nat) (C : World → Prop) (hm : P.follows .mixedOrders = true) (hB : rowEndB .any l.toArray n = true) (hC : C w.drew)
    (h : wpQuiet P l.toArray C (fun a' => ∀ w', C w' → wpList P l.toArray Q (l.drop n) a' w') (l.take n) a) : (Code.region id l.toArray true).wp P Q a w := by
  simp only [rowEndB, Bool.and_eq_true, decide_eq_true_eq, List.isEmpty_iff] at hB
  obtain ⟨⟨⟨⟨hsel, hn⟩, hc⟩, hr⟩, hx⟩ := hB
  have hn' : n < l.length := by simpa using hn
  refine wp_region_any hm ?_
  have hdl : (l.drop n).length = l.length - n := by simp
  have hrow : ∀ a' w', C w' → (∀ w', C w' → wpList P l.toArray Q (l.drop n) a' w') → wpAny P .any l.toArray Q (l.length - n) (pre l.toArray.size n) a' w' := by
    intro a' w' hw' h'
    have hQ : thenK Q (Q .normal) = Q := by funext e; cases e <;> rfl
    have := seg_row (md := .any) (n := l.length) (g := 0) (Q' := Q) (K := Q .normal) (fun a w hK => ⟨by rw [show l.length = l.toArray.size by simp]; exact hx, hK⟩) (l.drop n) n a' w' (fun j _ => by simp [List.getElem?_drop]) (by rw [hdl]; omega) (by simp) (by rw [hdl]; simpa using hr) (by rw [hQ]; exact h' w' hw')
    rwa [hdl, Nat.add_zero] at this
  have hlen : (l.take n).length = n := by simp; omega
  have := seg_quiet (md := .any) (k := 0) (n := n) hsel hc hrow (l.take n) (fun j hj => by
    rw [hlen] at hj
    simp [hj]) (by rw [hlen]; omega) h hC
  rw [hlen, show n + (l.length - n) = l.length by omega, pre_zero] at this
  exact this
end Go.Agg
/-! Marks of any elements; rows while they are marked. -/
namespace Go.Agg
open Go.RowKit
section
variable {α : Type} (mk : Nat → Nat → α)
def marksG (k n : Nat) : List α := (List.range n).map (mk k)
theorem marksG_length (k n : Nat) : (marksG mk k n).length = n := by simp [marksG]
theorem marksG_succ (k n : Nat) : marksG mk k (n + 1) = marksG mk k n ++ [mk k n] := by simp [marksG, List.range_succ]
theorem marksG_get (k n i : Nat) (h : i < n) : (marksG mk k n)[i]? = some (mk k i) := by simp [marksG, h]
theorem marksG_set (k i : Nat) (l : List α) (hi : i < l.length) : (marksG mk k i ++ l.drop i).set i (mk k i) = marksG mk k (i + 1) ++ l.drop (i + 1) := by
  rw [List.set_append_right _ _ (by rw [marksG_length]; exact Nat.le_refl _), marksG_length, Nat.sub_self, List.drop_eq_getElem_cons hi, List.set_cons_zero, marksG_succ, List.append_assoc, List.singleton_append]
/-- writing: row k at i -/
def wroteG (f : Nat → List α) (k i : Nat) : Nat → List α := fun j => if j = k then marksG mk k i ++ (f k).drop i else if j < k then marksG mk j (f j).length else f j
def wroteToG (f : Nat → List α) (k : Nat) : Nat → List α := fun j => if j < k then marksG mk j (f j).length else f j
theorem wroteG_zero (f : Nat → List α) (k : Nat) : wroteG mk f k 0 = wroteToG mk f k := by
  funext j
  unfold wroteG wroteToG
  by_cases hj : j = k
  · subst hj; simp [marksG]
  · simp [hj]
theorem wroteToG_zero (f : Nat → List α) : wroteToG mk f 0 = f := by funext j; simp [wroteToG]
theorem wroteToG_at (f : Nat → List α) (n k : Nat) (h : k < n) : wroteToG mk f n k = marksG mk k (f k).length := by simp [wroteToG, h]
theorem wroteToG_same (f : Nat → List α) (n k : Nat) (h : k < n) : (fun j => if j = k then marksG mk k (f k).length else wroteToG mk f n j) = wroteToG mk f n := by
  funext j
  by_cases hj : j = k
  · subst hj; simp [wroteToG, h]
  · simp [hj]
theorem marksG_more (k n i : Nat) : marksG mk k (n + i) ++ [mk k (n + i)] = marksG mk k (n + (i + 1)) := by rw [← Nat.add_assoc, marksG_succ]
theorem wroteG_all (f : Nat → List α) (k : Nat) : wroteG mk f k (f k).length = wroteToG mk f (k + 1) := by
  funext j
  unfold wroteG wroteToG
  by_cases hj : j = k
  · subst hj; simp
  · by_cases h : j < k
    · simp [hj, h, show j < k + 1 by omega]
    · simp [hj, h, show ¬ j < k + 1 by omega]
theorem wroteG_succ (f : Nat → List α) (k i : Nat) (hi : i < (f k).length) : (fun j => if j = k then (wroteG mk f k i k).set i (mk k i) else wroteG mk f k i j) = wroteG mk f k (i + 1) := by
  funext j
  unfold wroteG
  by_cases hj : j = k
  · subst hj; simp [marksG_set mk _ _ _ hi]
  · simp [hj]
theorem wroteG_len (f : Nat → List α) (k i : Nat) (hi : i ≤ (f k).length) : (wroteG mk f k i k).length = (f k).length := by unfold wroteG; simp [marksG_length]; omega
theorem wroteToG_len (f : Nat → List α) (n j : Nat) : (wroteToG mk f n j).length = (f j).length := by unfold wroteToG; split <;> simp [marksG_length]
end
end Go.Agg
/-! A file tree that is lent: marks behind its lists, in their spare room. -/
namespace Go.Proofs.YtdedpcdbnpnbeaaGreatDoor
open Go.RowKit Pl Go.Agg Go.Tr
def mkK (k i : Nat) : KdV := (mkT k i, ndZ)
mutual
/-- a node's value is a lent tree, in blocks bs, at or above base -/
def LenT (base : Nat) (w : World) : NdV → T → List Nat → Prop
  | x, .mk k b l, bs => x.1 = k ∧ LentO EB (marks 1 12) base w x.2.1.1 b ∧ ∃ (ks : List KdV) (cs : List Nat), LentO EK (marksG mkK 1 12) base w x.2.2.1 ks ∧ LenL base w ks l cs ∧ bs = ownB x.2.1.1 ++ (ownB x.2.2.1 ++ cs)
def LenL (base : Nat) (w : World) : List KdV → List (List UInt8 × T) → List Nat → Prop
  | [], [], bs => bs = []
  | y :: ks, (n, t) :: l, bs => y.1 = n ∧ ∃ cs ds, LenT base w y.2 t cs ∧ LenL base w ks l ds ∧ bs = cs ++ ds
  | _, _, _ => False
end
theorem lento_stays {α : Type} {E : Elem Tryz.prog α} {M : List α} {base : Nat} {w w' : World} {v : Value} {l : List α} {S : Nat → Prop} (h : LentO E M base w v l) (ho : Only S w w') (hS : ∀ k ∈ ownB v, ¬ S k) : LentO E M base w' v l := by
  obtain ⟨g, cap, rfl, h⟩ := h
  exact ⟨g, cap, rfl, own_stays h ho (fun k hk => hS k (by simpa [ownB, Value.ownBlock] using hk))⟩
theorem lento_range {α : Type} {E : Elem Tryz.prog α} {M : List α} {base : Nat} {w : World} {v : Value} {l : List α} (h : LentO E M base w v l) : ∀ k ∈ ownB v, base ≤ k ∧ k < w.heap.size := by
  obtain ⟨g, cap, rfl, h⟩ := h
  exact fun k hk => own_range h k (by simpa [ownB, Value.ownBlock] using hk)
theorem lento_slice {α : Type} {E : Elem Tryz.prog α} {M : List α} {base : Nat} {w : World} {v : Value} {l : List α} (h : LentO E M base w v l) : SliceOf E w v l := by
  obtain ⟨g, cap, rfl, h⟩ := h
  refine sliceOf_prefix (M := M) ?_
  exact h.slice
mutual
theorem LenT.only {base : Nat} {w w' : World} {S : Nat → Prop} (ho : Only S w w') : ∀ (t : T) (x : NdV) (bs : List Nat), LenT base w x t bs → (∀ k ∈ bs, ¬ S k) → LenT base w' x t bs
  | .mk _ _ l, _, _, h, hS => by
    obtain ⟨h1, h2, ks, cs, h3, h4, rfl⟩ := h
    exact ⟨h1, lento_stays h2 ho (fun k hk => hS k (by simp [hk])), ks, cs, lento_stays h3 ho (fun k hk => hS k (by simp [hk])), LenL.only ho l ks cs h4 (fun k hk => hS k (by simp [hk])), rfl⟩
theorem LenL.only {base : Nat} {w w' : World} {S : Nat → Prop} (ho : Only S w w') : ∀ (l : List (List UInt8 × T)) (ks : List KdV) (bs : List Nat), LenL base w ks l bs → (∀ k ∈ bs, ¬ S k) → LenL base w' ks l bs
  | [], [], _, h, _ => h
  | (_, t) :: l, y :: ks, _, h, hS => by
    obtain ⟨h1, cs, ds, h2, h3, rfl⟩ := h
    exact ⟨h1, cs, ds, LenT.only ho t y.2 cs h2 (fun k hk => hS k (by simp [hk])), LenL.only ho l ks ds h3 (fun k hk => hS k (by simp [hk])), rfl⟩
  | [], _ :: _, _, h, _ => h.elim
  | _ :: _, [], _, h, _ => h.elim
end
theorem LenT.below {base : Nat} {w w' : World} (hb : Below w.heap.size w w') {t : T} {x : NdV} {bs : List Nat} (h : LenT base w x t bs) : LenT base w' x t bs :=
  LenT.only (S := fun _ => False) (Only.of_below hb) t x bs h (fun _ _ h => h)
theorem LenL.below {base : Nat} {w w' : World} (hb : Below w.heap.size w w') {l : List (List UInt8 × T)} {ks : List KdV} {bs : List Nat} (h : LenL base w ks l bs) : LenL base w' ks l bs :=
  LenL.only (S := fun _ => False) (Only.of_below hb) l ks bs h (fun _ _ h => h)
mutual
theorem LenT.range {base : Nat} {w : World} : ∀ (t : T) (x : NdV) (bs : List Nat), LenT base w x t bs → ∀ k ∈ bs, base ≤ k ∧ k < w.heap.size
  | .mk _ _ l, _, _, h, k, hk => by
    obtain ⟨_, h2, ks, cs, h3, h4, rfl⟩ := h
    simp only [List.mem_append] at hk
    rcases hk with hk | hk | hk
    · exact lento_range h2 k hk
    · exact lento_range h3 k hk
    · exact LenL.range l ks cs h4 k hk
theorem LenL.range {base : Nat} {w : World} : ∀ (l : List (List UInt8 × T)) (ks : List KdV) (bs : List Nat), LenL base w ks l bs → ∀ k ∈ bs, base ≤ k ∧ k < w.heap.size
  | [], [], _, h, k, hk => by
    have h : _ = [] := h
    rw [h] at hk; cases hk
  | (_, t) :: l, y :: ks, _, h, k, hk => by
    obtain ⟨_, cs, ds, h2, h3, rfl⟩ := h
    simp only [List.mem_append] at hk
    rcases hk with hk | hk
    · exact LenT.range t y.2 cs h2 k hk
    · exact LenL.range l ks ds h3 k hk
  | [], _ :: _, _, h, _, _ => h.elim
  | _ :: _, [], _, h, _, _ => h.elim
end
mutual
theorem LenT.reads {base : Nat} {w : World} : ∀ (t : T) (x : NdV) (bs : List Nat), LenT base w x t bs → NodeV w x t
  | .mk _ _ l, _, _, h => by
    obtain ⟨h1, h2, ks, cs, h3, h4, _⟩ := h
    exact ⟨h1, lento_slice h2, ks, lento_slice h3, LenL.reads l ks cs h4⟩
theorem LenL.reads {base : Nat} {w : World} : ∀ (l : List (List UInt8 × T)) (ks : List KdV) (bs : List Nat), LenL base w ks l bs → KidsV w ks l
  | [], [], _, _ => trivial
  | (_, t) :: l, y :: ks, _, h => by
    obtain ⟨h1, cs, ds, h2, h3, _⟩ := h
    exact ⟨h1, LenT.reads t y.2 cs h2, LenL.reads l ks ds h3⟩
  | [], _ :: _, _, h => h.elim
  | _ :: _, [], _, h => h.elim
end
mutual
theorem LenT.lower {base b' : Nat} {w : World} (hb : b' ≤ base) : ∀ (t : T) (x : NdV) (bs : List Nat), LenT base w x t bs → LenT b' w x t bs
  | .mk _ _ l, _, _, h => by
    obtain ⟨h1, h2, ks, cs, h3, h4, rfl⟩ := h
    exact ⟨h1, h2.lower hb, ks, cs, h3.lower hb, LenL.lower hb l ks cs h4, rfl⟩
theorem LenL.lower {base b' : Nat} {w : World} (hb : b' ≤ base) : ∀ (l : List (List UInt8 × T)) (ks : List KdV) (bs : List Nat), LenL base w ks l bs → LenL b' w ks l bs
  | [], [], _, h => h
  | (_, t) :: l, y :: ks, _, h => by
    obtain ⟨h1, cs, ds, h2, h3, rfl⟩ := h
    exact ⟨h1, cs, ds, LenT.lower hb t y.2 cs h2, LenL.lower hb l ks ds h3, rfl⟩
  | [], _ :: _, _, h => h.elim
  | _ :: _, [], _, h => h.elim
end
theorem LenL.snoc {base : Nat} {w : World} : ∀ {l : List (List UInt8 × T)} {ks : List KdV} {bs : List Nat} {y : KdV} {t : T} {cs : List Nat}, LenL base w ks l bs → LenT base w y.2 t cs → LenL base w (ks ++ [y]) (l ++ [(y.1, t)]) (bs ++ cs)
  | [], [], _, _, _, cs, h, h2 => by
    have h : _ = [] := h
    subst h
    exact ⟨rfl, cs, [], h2, rfl, by simp⟩
  | (_, _) :: _, _ :: _, _, _, _, _, h, h2 => by
    obtain ⟨h1, cs, ds, h3, h4, rfl⟩ := h
    exact ⟨h1, cs, _, h3, LenL.snoc h4 h2, by simp⟩
  | [], _ :: _, _, _, _, _, h, _ => h.elim
  | _ :: _, [], _, _, _, _, h, _ => h.elim
theorem LenL.at_ {base : Nat} {w : World} : ∀ {ks : List KdV} {l : List (List UInt8 × T)} {bs : List Nat} (k : Nat) (x : List UInt8 × T), LenL base w ks l bs → l[k]? = some x → ∃ y cs, ks[k]? = some y ∧ y.1 = x.1 ∧ LenT base w y.2 x.2 cs
  | [], [], _, k, x, _, h => by simp at h
  | y :: ks, (n, t) :: l, _, 0, x, h, hx => by
    simp only [List.getElem?_cons_zero, Option.some.injEq] at hx
    subst hx
    obtain ⟨h1, cs, ds, h2, _, _⟩ := h
    exact ⟨y, cs, rfl, h1, h2⟩
  | y :: ks, (n, t) :: l, _, k + 1, x, h, hx => by
    simp only [List.getElem?_cons_succ] at hx ⊢
    obtain ⟨_, cs, ds, _, h3, _⟩ := h
    exact LenL.at_ k x h3 hx
  | [], (_, _) :: _, _, _, _, h, _ => h.elim
  | _ :: _, [], _, _, _, h, _ => h.elim
/-- a list of kids stays lent where its own row is pushed -/
theorem LenL.pushed {base B : Nat} {w w' : World} {v v' : Value} {l : List (List UInt8 × T)} {ks : List KdV} {cs : List Nat} (h : LenL base w ks l cs) (hc : ∀ k ∈ cs, k ∉ ownB v) (hp : Pushed EK B w w' v) (hg : Grew w v v') : LenL base w' ks l cs ∧ ∀ k ∈ cs, k ∉ ownB v' :=
  ⟨LenL.only hp.only l ks cs h fun k hk e => hc k hk (mem_ownB.2 e), fun k hk e => by
    rcases hg k (mem_ownB.1 e) with h1 | h1
    · exact hc k hk (mem_ownB.2 h1)
    · have := (LenL.range l ks cs h k hk).2; omega⟩
theorem LenT.pushed {base B : Nat} {w w' : World} {v v' : Value} {t : T} {x : NdV} {cs : List Nat} (h : LenT base w x t cs) (hc : ∀ k ∈ cs, k ∉ ownB v) (hp : Pushed EK B w w' v) (hg : Grew w v v') : LenT base w' x t cs ∧ ∀ k ∈ cs, k ∉ ownB v' :=
  ⟨LenT.only hp.only t x cs h fun k hk e => hc k hk (mem_ownB.2 e), fun k hk e => by
    rcases hg k (mem_ownB.1 e) with h1 | h1
    · exact hc k hk (mem_ownB.2 h1)
    · have := (LenT.range t x cs h k hk).2; omega⟩
end Go.Proofs.YtdedpcdbnpnbeaaGreatDoor
