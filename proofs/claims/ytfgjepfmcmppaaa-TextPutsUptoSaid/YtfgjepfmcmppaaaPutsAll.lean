/- TextPuts, proved. (Several texts in one.) -/
import Derived.Test.YtfgjepfmcmppaaaMark
import Derived.Test.YtfgjepfmcmppaaaAgg3
import Derived.Test.YtfgjepfmcmppaaaDrv
import Derived.Test.YtfgjepfmcmppaaaFlat
import Derived.Test.YtfgjepfmcmppaaaSame
import Derived.Test.YtfgjepfmcmppaaaApart
import Derived.Test.YtfgjepfmcmppaaaSameDrv
import Derived.Test.YtfgjepfmcmppaaaUnlike
import Derived.Test.YtfgjepfmcmppaaaRefPut
import Derived.Test.YtfgjepfmcmppaaaRefCan
import Derived.Test.YtfgjepfmcmppaaaMid
import Derived.Test.YtfgjepfmcmppaaaDrvData
import Derived.Test.YtfgjepfmcmppaaaLaw
import Derived.ProofKit
/-! spencekit.LentBytes. -/
namespace Go.Proofs.Ytfgjepfmcmppaaa
open Go.RowKit Pl Go.Agg
/-- a list with marks behind it, in its spare room -/
def Lent {α : Type} (E : Elem Try.prog α) (M : List α) (base : Nat) (w : World) (u : Value) (l : List α) : Prop :=
  ∃ g cap, u = .slice (some ⟨g, 0, none⟩) l.length cap ∧ base ≤ g ∧ l.length + M.length ≤ cap ∧ SliceOf E w (.slice (some ⟨g, 0, none⟩) (l.length + M.length) cap) (l ++ M)
theorem Lent.of_own {α : Type} {E : Elem Try.prog α} {M l : List α} {base : Nat} {w : World} {v : Value} (h : Own E base w v (l ++ M)) (hM : 0 < M.length) : ∃ g cap, v = .slice (some ⟨g, 0, none⟩) (l.length + M.length) cap ∧ l.length + M.length ≤ cap ∧ Lent E M base w (.slice (some ⟨g, 0, none⟩) l.length cap) l := by
  have hs := h.slice
  obtain ⟨hfl, ⟨rfl, h0⟩ | ⟨g, cap, cur, rfl, hgb, hcur, hle, _⟩⟩ := h
  · rw [List.length_append] at h0; omega
  · rw [List.length_append] at hs hle ⊢
    exact ⟨g, cap, rfl, hle, g, cap, rfl, hgb, hle, hs⟩
set_option maxRecDepth 100000 in
set_option maxHeartbeats 1000000 in
theorem lentBytes_any (v : Value) (b : List UInt8) (hb : b.length ≤ 1048576) (w : World) (he : BytesAt w v b) :
    Calls Try.prog 40 #[v] w fun e w' => ∃ u, e = .returned u ∧ Below w.heap.size w w' ∧ Lent EB (marks 1 12) w.heap.size w' u b := by
  have hlv := fun W => bytes_len he W
  have HE := Lib.hid he
  clear he
  have hc : b.length + 12 ≤ 1099511627776 / 8 := by omega
  go_enter Try.func40, Try.ntmps40
  go_wp2_with (first | (refine Agg.wpList_make0 (base := w.heap.size) EB rfl .i64 .i64 _ (b.length + 12) rfl rfl hc (by decide) (Nat.le_refl _) ?_; intro v1 w1 ho1 hx1) | (at_builtin; refine Agg.walk_stop ?_))
  refine ⟨?_, trivial⟩
  have h63 : ([] : List UInt8).length + b.length ≤ 1099511627776 / 8 := by simp; omega
  refine Agg.wpList_appendS (E := EB) rfl _ _ rfl v rfl rfl b ho1 (SliceOf.below HE.out hx1) h63 (by decide) hx1.size ?_
  intro v2 w2 ho2 hp2 _
  rw [List.nil_append] at ho2
  have hx2 := hx1.trans (hp2.below w.heap.size (Nat.le_refl _) hx1.size)
  simp only [Act.put, List.setIfInBounds_toArray, List.set_cons_succ, List.set_cons_zero]
  clear ho1 hp2 hx1
  go_wp2_with fail
  go_loopw [3, 4] (fun out i wr => ∃ k : Nat, k ≤ 12 ∧ i = .int .i64 k ∧ Own EB w.heap.size wr out (b ++ marks 1 k) ∧ Below w.heap.size w wr) (fun _ i _ => 12 - (intOf i).toNat)
  case atStart => exact ⟨0, by omega, rfl, by simpa [marks] using ho2, hx2⟩
  case round =>
    clear ho2 hx2
    obtain ⟨w3, rfl⟩ : ∃ w3 : World, w3 = wr := ⟨_, rfl⟩
    obtain ⟨k, hk, rfl, ho, hw⟩ := hrel
    have HO := Lib.hid ho
    have HW := Lib.hid hw
    clear ho hw
    by_cases hlt : k < 12
    · have h63 : (b ++ marks 1 k).length + 1 ≤ 1099511627776 / 8 := by rw [List.length_append, marks_length]; omega
      have hsz := HW.out.size
      go_wp2_with fail
      refine (markByte_any 1 k (by omega) (by omega) _).mono ?_
      rintro e w4 ⟨rfl, rfl⟩
      go_wp2_with (first | (refine Agg.wpList_push (E := EB) (base := w.heap.size) rfl rfl 19 rfl _ rfl _ rfl (mkB 1 k) rfl (fun _ => rfl) (by simp) HO.out h63 (by decide) hsz ?_; intro u5 v5 w5 ho5 hp5))
      rw [List.append_assoc, ← marks_succ] at ho5
      go_wp2_with fail
      go_roundw
      case rel => exact ⟨k + 1, by omega, by go_num, ho5, HW.out.trans (hp5.below w.heap.size (Nat.le_refl _) hsz)⟩
      case measure => simp [intOf]; omega
    · obtain rfl : k = 12 := by omega
      obtain ⟨g, cap, rfl, hcap, hlent⟩ := Lent.of_own HO.out (by rw [marks_length]; omega)
      rw [marks_length] at hcap
      have hcap2 : b.length ≤ cap := by omega
      have HLT := Lib.hid hlent
      clear hlent
      go_wp2_with fail
      go_ret
      exact ⟨_, rfl, HW.out, HLT.out⟩
end Go.Proofs.Ytfgjepfmcmppaaa
/-! spencekit.markText, markNamed. -/
namespace Go.Proofs.Ytfgjepfmcmppaaa
open Go.RowKit Pl Go.Agg
def mkT (k i : Nat) : List UInt8 := [35, UInt8.ofNat k, UInt8.ofNat (k / 256), UInt8.ofNat (k / 65536), 47, UInt8.ofNat i, UInt8.ofNat (i / 256), UInt8.ofNat (i / 65536)]
theorem mkT_flat (k i : Nat) : EB.flat (mkT k i) = [.int .u8 35, .int .u8 ((k : Int) % 256), .int .u8 ((k : Int) / 256 % 256), .int .u8 ((k : Int) / 65536 % 256), .int .u8 47, .int .u8 ((i : Int) % 256), .int .u8 ((i : Int) / 256 % 256), .int .u8 ((i : Int) / 65536 % 256)] := by
  have h : ∀ x : UInt8, EB.cs x = [.int .u8 (x.toNat : Int)] := fun _ => rfl
  have h2 : ∀ n : Nat, ((UInt8.ofNat n).toNat : Int) = (n : Int) % 256 := fun n => by simp
  simp only [Elem.flat, mkT, List.flatMap_cons, List.flatMap_nil, h, List.singleton_append, List.append_nil, h2]
  simp
theorem mkT_at (k i : Nat) (w : World) : BytesAt (w.alloc (.cells #[.int .u8 35, .int .u8 ((k : Int) % 256), .int .u8 ((k : Int) / 256 % 256), .int .u8 ((k : Int) / 65536 % 256), .int .u8 47, .int .u8 ((i : Int) % 256), .int .u8 ((i : Int) / 256 % 256), .int .u8 ((i : Int) / 65536 % 256)] 5)) (.slice (some ⟨w.heap.size, 0, none⟩) 8 8) (mkT k i) := by
  refine .inr ⟨_, 8, rfl, (Blk.new w _ _).lt, fun j u hj => ?_⟩
  rw [mkT_flat] at hj
  rw [add_plain, Nat.zero_add, (Blk.new w _ _).cell]
  simpa using hj
set_option maxRecDepth 100000 in
set_option maxHeartbeats 1000000 in
theorem markText_any (k i : Nat) (w : World) : Calls Try.prog 98 #[.int .i64 (k : Int), .int .i64 (i : Int)] w fun e w' => e = .returned (.string ⟨(mkT k i).toArray⟩) ∧ Below w.heap.size w w' := by
  go_enter Try.func98, Try.ntmps98
  have HM := Lib.hid (mkT_at k i w)
  go_wp2_with (first | (with_reducible refine wpList_toStr HM.out _ rfl (by kernel_rfl) rfl ?_))
  go_ret
  exact ⟨rfl, (Below.refl _ _).alloc (Nat.le_refl _) _⟩
end Go.Proofs.Ytfgjepfmcmppaaa
/-! spencekit.markNamed. -/
namespace Go.Proofs.Ytfgjepfmcmppaaa
open Go.RowKit Pl Go.Agg
def mkN (k i : Nat) : Nam := (mkT k i, zI)
theorem build_nam1 (s : List UInt8) (w : World) : (Instr.build 64 #[(0, .string ⟨s.toArray⟩)]).run Try.prog w = .ok (.agg (nmC (s, zI))) w := by kernel_rfl
set_option maxRecDepth 100000 in
set_option maxHeartbeats 1000000 in
theorem markNamed_any (k i : Nat) (w : World) : Calls Try.prog 63 #[.int .i64 (k : Int), .int .i64 (i : Int)] w fun e w' => e = .returned (.agg (nmC (mkN k i))) ∧ Below w.heap.size w w' := by
  obtain ⟨s, hs⟩ : ∃ s, mkT k i = s := ⟨_, rfl⟩
  have hm := fun w => markText_any k i w
  have hk : mkN k i = (s, zI) := by rw [mkN, hs]
  rw [hs] at hm
  rw [hk]
  have HM := Lib.hid hm
  clear hs hk hm
  go_enter Try.func63, Try.ntmps63
  go_wp2_with (first | (with_reducible refine Agg.wpList_zero rfl 64 rfl (nmC zN) nmC_zero ?_; intro g w1 hb1 hx1 hg1))
  refine (HM.out w1).mono ?_
  rintro e w2 ⟨rfl, hw2⟩
  have hb2 := hb1.below hw2
  have hx2 := Agg.belowThen hx1 (Nat.le_refl _) hw2
  clear hb1
  go_wp2_with (first | (with_reducible refine Agg.wpList_build1 64 0 _ rfl rfl (.string ⟨s.toArray⟩) rfl (.agg (nmC (s, zI))) (build_nam1 s) ?_) | (with_reducible refine Agg.wpList_put rfl rfl 64 _ _ rfl g (nmC (s, zI)) (nmC zN) rfl rfl hb2 (nmC_info _) (by rw [nmC_size, nmC_size]) (nmC_one _) ?_; intro w3 hb3 hx3 _ _))
  exact Agg.post_row rfl rfl hb3 nmC_under rfl (nmC_info _) rfl ⟨rfl, hx2.trans (hx3.mono hg1)⟩
end Go.Proofs.Ytfgjepfmcmppaaa
/-! spencekit.KeptBytes. -/
namespace Go.Proofs.Ytfgjepfmcmppaaa
open Go.RowKit Pl Go.Agg
theorem markByte_off (k n : Nat) (hk : n ≤ k) (hi : k ≤ 16777216) (w : World) : Calls Try.prog 64 #[.int .i64 1, .int .i64 ((k : Int) - (n : Int))] w fun e w' => e = .returned (.int .u8 ((mkB 1 (k - n)).toNat : Int)) ∧ Below w.heap.size w w' := by
  rw [show ((k : Int) - (n : Int)) = ((k - n : Nat) : Int) by omega]
  exact markByte_blw 1 (k - n) (by omega) (by omega) w
set_option maxRecDepth 100000 in
set_option maxHeartbeats 1000000 in
theorem keptBytes_any (u v : Value) (b : List UInt8) (hb : b.length ≤ 1048576) (base : Nat) (w : World) (hu : Lent EB (marks 1 12) base w u b) (hv : BytesAt w v b) :
    Calls Try.prog 47 #[u, v] w fun e w' => e = .returned (.bool true) ∧ Below w.heap.size w w' := by
  have hlv := fun W => bytes_len hv W
  have HV := Lib.hid hv
  obtain ⟨g, cap, rfl, _, hcap, ha⟩ := hu
  rw [marks_length] at hcap ha
  have HA := Lib.hid ha
  clear hv ha
  have hne : ((b.length : Int) != (b.length : Int)) = false := by simp
  go_enter Try.func47, Try.ntmps47
  go_wp2_with fail
  go_loopw [6] (fun i wr => ∃ k : Nat, k ≤ b.length + 12 ∧ i = .int .i64 k ∧ Below w.heap.size w wr) (fun i _ => b.length + 12 - (intOf i).toNat)
  case atStart => exact ⟨0, by omega, rfl, Below.refl _ _⟩
  case round =>
    obtain ⟨w1, rfl⟩ : ∃ w1 : World, w1 = wr := ⟨_, rfl⟩
    obtain ⟨k, hk, rfl, hw⟩ := hrel
    have HW := Lib.hid hw
    clear hw
    by_cases hlt : k < b.length + 12
    · by_cases hlt2 : k < b.length
      · obtain ⟨y, hyk⟩ : ∃ y, b[k]? = some y := ⟨_, List.getElem?_eq_getElem hlt2⟩
        obtain ⟨pa, hadp, hlda⟩ := byte_at (SliceOf.below HA.out HW.out) k y (by rw [List.getElem?_append_left hlt2]; exact hyk)
        obtain ⟨pv, hadv, hldv⟩ := byte_at (SliceOf.below HV.out HW.out) k y hyk
        have HLA := Lib.hid hlda
        have HLV := Lib.hid hldv
        have hd1 : decide ((k : Int) < (b.length : Int)) = true := by simp; omega
        have hd3 : decide (b.length ≤ k) = false := by simp; omega
        clear hyk hlda hldv
        go_wp2_with fail
        try simp only [Act.put, List.setIfInBounds_toArray, List.set_cons_succ, List.set_cons_zero]
        refine Agg.wp_region_later_lit (by kernel_rfl) (by kernel_rfl) ?_
        repeat (first | go_big_quiet_skip | ((first | (with_reducible refine Agg.wpQuiet_loadL HLA.out rfl _ rfl rfl ?_) | (with_reducible refine Agg.wpQuiet_loadL HLV.out rfl _ rfl rfl ?_)); simp only [Act.put, List.setIfInBounds_toArray, List.set_cons_succ, List.set_cons_zero]) | go_big_quiet_step (fail))
        refine wpQuiet_nil ?_
        intro _ hw'
        obtain ⟨x1, rfl⟩ := hw'
        go_wp2_with fail
        go_roundw
        case rel => exact ⟨k + 1, by omega, by go_num, Agg.belowThen HW.out (Nat.le_refl _) x1.h⟩
        case measure => simp [intOf]; omega
      · obtain ⟨pa, hadp, hlda⟩ := byte_at (SliceOf.below HA.out HW.out) k (mkB 1 (k - b.length)) (by rw [List.getElem?_append_right (by omega)]; exact marks_get _ _ _ (by omega))
        have HLA := Lib.hid hlda
        have hd1 : decide ((k : Int) < (b.length : Int)) = false := by simp; omega
        have hd3 : decide (b.length ≤ k) = true := by simp; omega
        clear hlda
        go_wp2_with fail
        try simp only [Act.put, List.setIfInBounds_toArray, List.set_cons_succ, List.set_cons_zero]
        refine Agg.wp_region_later_lit (by kernel_rfl) (by kernel_rfl) ?_
        repeat (first | go_big_quiet_skip | ((first | (with_reducible refine Agg.wpQuiet_loadL HLA.out rfl _ rfl rfl ?_)); simp only [Act.put, List.setIfInBounds_toArray, List.set_cons_succ, List.set_cons_zero]) | go_big_quiet_step ((go_at_call 64; exact Agg.Calls.later (markByte_off k b.length (by omega) (by omega) _))))
        refine wpQuiet_nil ?_
        intro _ hw'
        obtain ⟨x1, rfl⟩ := hw'
        go_wp2_with fail
        go_roundw
        case rel => exact ⟨k + 1, by omega, by go_num, Agg.belowThen HW.out (Nat.le_refl _) x1.h⟩
        case measure => simp [intOf]; omega
    · obtain rfl : k = b.length + 12 := by omega
      go_wp2_with fail
      go_ret
      exact ⟨rfl, HW.out⟩
end Go.Proofs.Ytfgjepfmcmppaaa
/-! spencekit.LentNameds. -/
namespace Go.Proofs.Ytfgjepfmcmppaaa
open Go.RowKit Pl Go.Agg
def marksN (k n : Nat) : List Nam := (List.range n).map (mkN k)
theorem marksN_length (k n : Nat) : (marksN k n).length = n := by simp [marksN]
theorem marksN_succ (k n : Nat) : marksN k (n + 1) = marksN k n ++ [mkN k n] := by simp [marksN, List.range_succ]
theorem marksN_get (k n i : Nat) (h : i < n) : (marksN k n)[i]? = some (mkN k i) := by simp [marksN, h]
set_option maxRecDepth 100000 in
set_option maxHeartbeats 1000000 in
theorem lentNams_any (v : Value) (b : List Nam) (hb : b.length ≤ 1048576) (w : World) (he : NamsAt w v b) :
    Calls Try.prog 39 #[v] w fun e w' => ∃ u, e = .returned u ∧ Below w.heap.size w w' ∧ Lent ENm (marksN 1 12) w.heap.size w' u b := by
  have hlv := fun W => nams_len he W
  have HE := Lib.hid he
  clear he
  have hc : b.length + 12 ≤ 1099511627776 / 8 := by omega
  go_enter Try.func39, Try.ntmps39
  go_wp2_with (first | (refine Agg.wpList_make0 (base := w.heap.size) ENm rfl .i64 .i64 _ (b.length + 12) rfl rfl hc (by decide) (Nat.le_refl _) ?_; intro v1 w1 ho1 hx1) | (at_builtin; refine Agg.walk_stop ?_))
  refine ⟨?_, trivial⟩
  have h63 : ([] : List Nam).length + b.length ≤ 1099511627776 / 8 := by simp; omega
  refine Agg.wpList_appendS (E := ENm) rfl _ _ rfl v rfl rfl b ho1 (SliceOf.below HE.out hx1) h63 (by decide) hx1.size ?_
  intro v2 w2 ho2 hp2 _
  rw [List.nil_append] at ho2
  have hx2 := hx1.trans (hp2.below w.heap.size (Nat.le_refl _) hx1.size)
  simp only [Act.put, List.setIfInBounds_toArray, List.set_cons_succ, List.set_cons_zero]
  clear ho1 hp2 hx1
  go_wp2_with fail
  go_loopw [3, 4] (fun out i wr => ∃ k : Nat, k ≤ 12 ∧ i = .int .i64 k ∧ Own ENm w.heap.size wr out (b ++ marksN 1 k) ∧ Below w.heap.size w wr) (fun _ i _ => 12 - (intOf i).toNat)
  case atStart => exact ⟨0, by omega, rfl, by simpa [marksN] using ho2, hx2⟩
  case round =>
    clear ho2 hx2
    obtain ⟨w3, rfl⟩ : ∃ w3 : World, w3 = wr := ⟨_, rfl⟩
    obtain ⟨k, hk, rfl, ho, hw⟩ := hrel
    have HO := Lib.hid ho
    have HW := Lib.hid hw
    clear ho hw
    by_cases hlt : k < 12
    · have h63 : (b ++ marksN 1 k).length + 1 ≤ 1099511627776 / 8 := by rw [List.length_append, marksN_length]; omega
      have hsz := HW.out.size
      go_wp2_with fail
      refine (markNamed_any 1 k _).mono ?_
      rintro e w4 ⟨rfl, hw4⟩
      have hx4 := Agg.belowThen HW.out (Nat.le_refl _) hw4
      have HO4 := Lib.hid (HO.out.below hw4)
      have hsz4 := hx4.size
      go_wp2_with (first | (refine Agg.wpList_push (E := ENm) (base := w.heap.size) rfl rfl 19 rfl _ rfl _ rfl (mkN 1 k) rfl (fun _ => rfl) (by simp) HO4.out h63 (by decide) hsz4 ?_; intro u5 v5 w5 ho5 hp5))
      rw [List.append_assoc, ← marksN_succ] at ho5
      go_wp2_with fail
      go_roundw
      case rel => exact ⟨k + 1, by omega, by go_num, ho5, hx4.trans (hp5.below w.heap.size (Nat.le_refl _) hsz4)⟩
      case measure => simp [intOf]; omega
    · obtain rfl : k = 12 := by omega
      obtain ⟨g, cap, rfl, hcap, hlent⟩ := Lent.of_own HO.out (by rw [marksN_length]; omega)
      rw [marksN_length] at hcap
      have hcap2 : b.length ≤ cap := by omega
      have HLT := Lib.hid hlent
      clear hlent
      go_wp2_with fail
      go_ret
      exact ⟨_, rfl, HW.out, HLT.out⟩
end Go.Proofs.Ytfgjepfmcmppaaa
/-! spencekit.KeptNameds (what is still as it was lent). -/
namespace Go.Proofs.Ytfgjepfmcmppaaa
open Go.RowKit Pl Go.Agg
theorem markNamed_off (k n : Nat) (hk : n ≤ k) (w : World) : Calls Try.prog 63 #[.int .i64 1, .int .i64 ((k : Int) - (n : Int))] w fun e w' => e = .returned (.agg (nmC (mkN 1 (k - n)))) ∧ Below w.heap.size w w' := by
  rw [show ((k : Int) - (n : Int)) = ((k - n : Nat) : Int) by omega]
  exact markNamed_any 1 (k - n) w
set_option maxRecDepth 100000 in
set_option maxHeartbeats 1000000 in
theorem keptNams_any (u v : Value) (b : List Nam) (hb : b.length ≤ 1048576) (base : Nat) (w : World) (hu : Lent ENm (marksN 1 12) base w u b) (hv : NamsAt w v b) :
    Calls Try.prog 46 #[u, v] w fun e w' => e = .returned (.bool true) ∧ Below w.heap.size w w' := by
  have hlv := fun W => nams_len hv W
  have HV := Lib.hid hv
  obtain ⟨g, cap, rfl, _, hcap, ha⟩ := hu
  rw [marksN_length] at hcap ha
  have HA := Lib.hid ha
  clear hv ha
  have hne : ((b.length : Int) != (b.length : Int)) = false := by simp
  go_enter Try.func46, Try.ntmps46
  go_wp2_with fail
  go_loopw [6] (fun i wr => ∃ k : Nat, k ≤ b.length + 12 ∧ i = .int .i64 k ∧ Below w.heap.size w wr) (fun i _ => b.length + 12 - (intOf i).toNat)
  case atStart => exact ⟨0, by omega, rfl, Below.refl _ _⟩
  case round =>
    obtain ⟨w1, rfl⟩ : ∃ w1 : World, w1 = wr := ⟨_, rfl⟩
    obtain ⟨k, hk, rfl, hw⟩ := hrel
    have HW := Lib.hid hw
    clear hw
    by_cases hlt : k < b.length + 12
    · by_cases hlt2 : k < b.length
      · obtain ⟨y, hyk⟩ : ∃ y, b[k]? = some y := ⟨_, List.getElem?_eq_getElem hlt2⟩
        obtain ⟨pa, hadp, hlda⟩ := nam_at (SliceOf.below HA.out HW.out) k y (by rw [List.getElem?_append_left hlt2]; exact hyk)
        obtain ⟨pv, hadv, hldv⟩ := nam_at (SliceOf.below HV.out HW.out) k y hyk
        have HLA := Lib.hid hlda.all
        have HLV := Lib.hid hldv.all
        have hd1 : decide ((k : Int) < (b.length : Int)) = true := by simp; omega
        have hd3 : decide (b.length ≤ k) = false := by simp; omega
        have hq : ∀ w, (binOp .eql 64 (.agg (nmC y)) (.agg (nmC y))).run Try.prog w = .ok (.bool true) w := fun w => by rw [eql_nam]; simp
        have HQ := Lib.hid hq
        clear hyk hlda hldv hq
        go_wp2_with fail
        try simp only [Act.put, List.setIfInBounds_toArray, List.set_cons_succ, List.set_cons_zero]
        refine Agg.wp_region_later_lit (by kernel_rfl) (by kernel_rfl) ?_
        repeat (first | go_big_quiet_skip | ((first | (with_reducible refine Agg.wpQuiet_loadL HLA.out rfl _ rfl rfl ?_) | (with_reducible refine Agg.wpQuiet_loadL HLV.out rfl _ rfl rfl ?_) | (with_reducible refine Agg.wpQuiet_eql rfl 64 64 _ _ rfl (nmC y) (nmC y) rfl rfl (true) (by kernel_rfl) HQ.out ?_)); simp only [Act.put, List.setIfInBounds_toArray, List.set_cons_succ, List.set_cons_zero]) | go_big_quiet_step (fail))
        refine wpQuiet_nil ?_
        intro _ hw'
        obtain ⟨x1, rfl⟩ := hw'
        go_wp2_with fail
        go_roundw
        case rel => exact ⟨k + 1, by omega, by go_num, Agg.belowThen HW.out (Nat.le_refl _) x1.h⟩
        case measure => simp [intOf]; omega
      · obtain ⟨y, hy⟩ : ∃ y, y = mkN 1 (k - b.length) := ⟨_, rfl⟩
        have hmn := fun w => markNamed_off k b.length (by omega) w
        obtain ⟨pa, hadp, hlda⟩ := nam_at (SliceOf.below HA.out HW.out) k (mkN 1 (k - b.length)) (by rw [List.getElem?_append_right (by omega)]; exact marksN_get _ _ _ (by omega))
        rw [← hy] at hlda
        simp only [← hy] at hmn
        have HMN := Lib.hid hmn
        have HLA := Lib.hid hlda.all
        have hd1 : decide ((k : Int) < (b.length : Int)) = false := by simp; omega
        have hd3 : decide (b.length ≤ k) = true := by simp; omega
        have hq : ∀ w, (binOp .eql 64 (.agg (nmC y)) (.agg (nmC y))).run Try.prog w = .ok (.bool true) w := fun w => by rw [eql_nam]; simp
        have HQ := Lib.hid hq
        clear hlda hy hq hmn
        go_wp2_with fail
        try simp only [Act.put, List.setIfInBounds_toArray, List.set_cons_succ, List.set_cons_zero]
        refine Agg.wp_region_later_lit (by kernel_rfl) (by kernel_rfl) ?_
        repeat (first | go_big_quiet_skip | ((first | (with_reducible refine Agg.wpQuiet_loadL HLA.out rfl _ rfl rfl ?_) | (with_reducible refine Agg.wpQuiet_eql rfl 64 64 _ _ rfl (nmC y) (nmC y) rfl rfl (true) (by kernel_rfl) HQ.out ?_)); simp only [Act.put, List.setIfInBounds_toArray, List.set_cons_succ, List.set_cons_zero]) | go_big_quiet_step ((go_at_call 63; exact Agg.Calls.later (HMN.out _))))
        refine wpQuiet_nil ?_
        intro _ hw'
        obtain ⟨x1, rfl⟩ := hw'
        go_wp2_with fail
        go_roundw
        case rel => exact ⟨k + 1, by omega, by go_num, Agg.belowThen HW.out (Nat.le_refl _) x1.h⟩
        case measure => simp [intOf]; omega
    · obtain rfl : k = b.length + 12 := by omega
      go_wp2_with fail
      go_ret
      exact ⟨rfl, HW.out⟩
end Go.Proofs.Ytfgjepfmcmppaaa
/-! One cell of a block written; (*bag).putBytes. -/
namespace Go.Agg
open Go.RowKit
variable {P : Program}
theorem Blk.set {w : World} {g : Nat} {t : TypeId} {cs : Array Value} (h : Blk w g t cs) (i : Nat) (v : Value) : Blk (w.setCell ⟨g, i, none⟩ v) g t (cs.setIfInBounds i v) := by
  unfold Blk at *
  simp [World.setCell, Array.getElem?_modify, h]
theorem Blk.run_put {w : World} {g : Nat} {t ty : TypeId} {cs : Array Value} (h : Blk w g t cs) (i : Nat) (hi : i < cs.size) (v : Value) (hv : v.cells = #[v]) (h1 : v.oneCell' = true) (hs : (P.info? ty).map (·.size) = some 1) :
    (Instr.storeAt ty (.pointer (some ⟨g, i, none⟩)) v).run P w = .ok () (w.setCell ⟨g, i, none⟩ v) := by
  have hst := run_storeCells_cells (P := P) g i v.cells.toList 0 w (fun j hj => by
    rw [hv] at hj
    obtain rfl : j = 0 := by simpa using hj
    rw [h.cell]
    simp [hi]) (fun j _ => frozen_of_row _ _ _ _ _ h) (by rw [hv]; simpa using h1)
  have hsz : (Go.sizeOf ty).run P w = .ok 1 w := by
    cases hq : P.info? ty with
    | none => simp [hq] at hs
    | some d =>
      have : d.size = 1 := by simpa [hq] using hs
      simp [Go.sizeOf, typeInfo, hq, this]
  rw [hv] at hst
  simp only [Nat.add_zero, World.setCells] at hst
  simp [Instr.storeAt, Instr.sureAddr, storeVar, hsz, hv, hst]
end Go.Agg
namespace Go.Proofs.Ytfgjepfmcmppaaa
open Go.RowKit Pl Go.Agg
theorem bag_put {w w1 : World} {g : Nat} {v0 v1 : Value} {l : List SV} (hg : Blk w g 95 (bagC v0)) (ho : Own EBB (g + 1) w1 v1 l) (hp : Pushed EBB (g + 1) w w1 v0) :
    ∃ w2, (Instr.storeAt 36 (.pointer (some ⟨g, 5, none⟩)) v1).run Try.prog w1 = .ok () w2 ∧ Blk w2 g 95 (bagC v1) ∧ Own EBB (g + 1) w2 v1 l ∧ Below g w w2 := by
  have h1 : Blk w1 g 95 (bagC v0) := hp.blk g _ _ _ (by decide) hg
  obtain ⟨p, c, rfl⟩ := ho.slice.form
  refine ⟨_, h1.run_put 5 (by simp [bagC]) _ rfl rfl (by kernel_rfl), h1.set 5 _, ho.keep fun k cur t fr hk hb => ?_, ?_⟩
  · rw [Below.heap_setCell _ _ _ _ (by show k ≠ g; omega)]; exact hb
  · have hb := hp.below g (by omega) (Nat.le_of_lt hg.lt)
    exact hb.setCell (Nat.le_refl _) _
set_option maxRecDepth 100000 in
set_option maxHeartbeats 1000000 in
theorem putBytes_any (g : Nat) (v0 : Value) (vs : List SV) (x : SV) (w : World) (hg : Blk w g 95 (bagC v0)) (ho : Own EBB (g + 1) w v0 vs) (hn : vs.length ≤ 4194304) :
    Calls Try.prog 48 #[.pointer (some ⟨g, 0, none⟩), x.1] w fun e w' => (∃ r, e = .returned r) ∧ ∃ v', Blk w' g 95 (bagC v') ∧ Own EBB (g + 1) w' v' (vs ++ [x]) ∧ Below g w w' := by
  have hl : LoadsL Try.prog w 36 (some ⟨g, 5, none⟩) v0 := hg.one (P := Try.prog) 5 rfl (by kernel_rfl : Try.prog.underlying 36 = some (.slice 23)) rfl
  have HL := Lib.hid hl
  have HG := Lib.hid hg
  have HO := Lib.hid ho
  have hlt := hg.lt
  have h63 : vs.length + 1 ≤ 1099511627776 / 8 := by omega
  have hbase : g + 1 ≤ w.heap.size := hlt
  clear hl hg ho
  go_enter Try.func48, Try.ntmps48
  go_wp2_with (first | (with_reducible refine Agg.wpList_loadL HL.out rfl _ rfl rfl ?_) | (refine Agg.wpList_push (E := EBB) (base := g + 1) rfl rfl 10 rfl _ rfl _ rfl x rfl (fun _ => rfl) (by simp) HO.out h63 (by decide) hbase ?_; intro u1 v1 w1 ho1 hp1; obtain ⟨w2, hrun, hfin⟩ := bag_put HG.out ho1 hp1; have HFIN := Lib.hid hfin; clear ho1 hp1 hfin) | (refine Agg.wpList_store rfl rfl 36 _ _ rfl (.pointer (some ⟨g, 5, none⟩)) _ rfl rfl hrun ?_))
  refine bodyPost_end (results_none rfl _ _ _) rfl ?_
  exact ⟨⟨_, rfl⟩, _, HFIN.out.1, HFIN.out.2.1, HFIN.out.2.2⟩
end Go.Proofs.Ytfgjepfmcmppaaa
/-! spencekit.ApartBytes. -/
namespace Go.Proofs.Ytfgjepfmcmppaaa
open Go.RowKit Pl Go.Agg
set_option maxRecDepth 100000 in
set_option maxHeartbeats 1000000 in
theorem apartBytes_any (v0 : Value) (vs : List SV) (f : Nat → List UInt8) (w : World) (he : BBAt w v0 vs) (hr : RoomsOf EB w vs f) (hd : Dist vs) (hn : vs.length ≤ 4194304) (hf : ∀ j, (f j).length ≤ 8388608) :
    Calls Try.prog 20 #[v0] w fun e w' => e = .returned (.bool true) ∧ Only (SS vs) w w' := by
  have hlv := fun W => bb_len he W
  have HE := Lib.hid he
  have HR := Lib.hid hr
  have HD := Lib.hid hd
  clear he hr hd
  have hbld : ∀ W, (Instr.build 95 #[]).run Try.prog W = .ok (.agg (bagC (.slice none 0 0))) W := fun W => by kernel_rfl
  have HBLD := Lib.hid hbld
  clear hbld
  go_enter Try.func20, Try.ntmps20
  go_wp2_with (first | (with_reducible refine Agg.wpList_build0 95 rfl rfl (.agg (bagC (.slice none 0 0))) HBLD.out ?_) | (with_reducible refine Agg.wpList_box rfl 95 _ rfl (bagC (.slice none 0 0)) rfl ?_; intro g w1 hb1 hx1 hlt1))
  go_loopw [4] (fun i wr => ∃ k : Nat, k ≤ vs.length ∧ i = .int .i64 k ∧ ∃ u, Blk wr g 95 (bagC u) ∧ Own EBB (g + 1) wr u (vs.take k) ∧ Below w.heap.size w wr) (fun i _ => vs.length - (intOf i).toNat)
  case atStart => exact ⟨0, by omega, rfl, _, hb1, Own.nil _ _ _, hx1⟩
  case round =>
    clear hb1 hx1
    obtain ⟨w2, rfl⟩ : ∃ w2 : World, w2 = wr := ⟨_, rfl⟩
    obtain ⟨k, hk, rfl, u, hb, ho, hw⟩ := hrel
    have HB := Lib.hid hb
    have HO := Lib.hid ho
    have HW := Lib.hid hw
    clear hb ho hw
    by_cases hlt : k < vs.length
    · obtain ⟨v, hvk⟩ : ∃ v, vs[k]? = some v := ⟨_, List.getElem?_eq_getElem hlt⟩
      have HV := Lib.hid hvk
      obtain ⟨q, hadr, hld⟩ := bb_at (SliceOf.below HE.out HW.out) k v hvk
      have HL := Lib.hid hld
      have hkl : (vs.take k).length ≤ k := List.length_take_le _ _
      clear hvk hld
      go_wp2_with (first | (with_reducible refine Agg.wpList_loadL HL.out rfl _ rfl rfl ?_))
      refine (putBytes_any g u (vs.take k) v w2 HB.out HO.out (by omega)).mono ?_
      rintro e w3 ⟨⟨r, rfl⟩, u3, hb3, ho3, hw3⟩
      have ht : vs.take k ++ [v] = vs.take (k + 1) := by rw [List.take_add_one, HV.out]; rfl
      rw [ht] at ho3
      go_wp2_with fail
      go_roundw
      case rel => exact ⟨k + 1, by omega, by go_num, _, hb3, ho3, HW.out.trans (hw3.mono hlt1)⟩
      case measure => simp [intOf]; omega
    · obtain rfl : k = vs.length := by omega
      have ho := HO.out
      rw [List.take_length] at ho
      have hss : ∀ b, SS vs b → b < w.heap.size := HR.out.lt
      have hsep : ∀ b, u.ownBlock = some b → ¬ SS vs b := fun b hb h => by
        have h1 := (ho.block b hb).1
        have h2 := hss b h
        omega
      have hgS : ¬ SS vs g := fun h => by have := hss g h; omega
      have HA := Lib.hid (apart_any g u vs f w2 HB.out hgS ho.slice (HR.out.below HW.out) HD.out hsep hn hf)
      clear ho hss hsep hgS
      go_wp2_with fail
      refine HA.out.mono ?_
      rintro e w3 ⟨rfl, h3, _⟩
      go_wp2_with fail
      go_ret
      exact ⟨rfl, (Only.of_below HW.out).trans h3 (fun _ _ h => h)⟩
end Go.Proofs.Ytfgjepfmcmppaaa
/-! spencekit.LentDrv, KeptDrv. -/
namespace Go.Agg
open Go.RowKit
variable {P : Program}
/-- one cell of a block written: what stays -/
theorem Blk.put {w : World} {g : Nat} {t ty : TypeId} {cs : Array Value} (h : Blk w g t cs) (i : Nat) (hi : i < cs.size) (v : Value) (hv : v.cells = #[v]) (h1 : v.oneCell' = true) (hs : (P.info? ty).map (·.size) = some 1) :
    ∃ w', (Instr.storeAt ty (.pointer (some ⟨g, i, none⟩)) v).run P w = .ok () w' ∧ Blk w' g t (cs.setIfInBounds i v) ∧ Only (· = g) w w' ∧ w'.heap.size = w.heap.size :=
  ⟨_, h.run_put i hi v hv h1 hs, h.set i v, ⟨rfl, rfl, rfl, by simp [World.setCell], fun k _ hk => Below.heap_setCell _ _ _ _ hk⟩, by simp [World.setCell]⟩
theorem Blk.only {S : Nat → Prop} {w w' : World} {g : Nat} {t : TypeId} {cs : Array Value} (h : Blk w g t cs) (ho : Only S w w') (hS : ¬ S g) : Blk w' g t cs := (ho.block g h.lt hS).trans h
end Go.Agg
namespace Go.Proofs.Ytfgjepfmcmppaaa
open Go.RowKit Pl Go.Agg
section
variable {α : Type} {E : Elem Try.prog α} {M l : List α} {base : Nat} {w w' : World} {u : Value}
theorem Lent.slice (h : Lent E M base w u l) : SliceOf E w u l := by
  obtain ⟨g, cap, rfl, _, _, hs⟩ := h
  rcases hs with ⟨p, c, hv, hl⟩ | ⟨p, c, hv, hp, hc⟩
  · obtain ⟨rfl, _⟩ := List.append_eq_nil_iff.1 hl
    exact SliceOf.nil _ _ _
  · simp only [Value.slice.injEq, Option.some.injEq] at hv
    obtain ⟨rfl, _, rfl⟩ := hv
    refine .inr ⟨_, _, rfl, hp, fun j u hj => hc j u ?_⟩
    rw [Elem.flat_append, List.getElem?_append_left (List.getElem?_eq_some_iff.1 hj).1]
    exact hj
theorem Lent.below (h : Lent E M base w u l) (hb : Below w.heap.size w w') : Lent E M base w' u l := by
  obtain ⟨g, cap, rfl, h1, h2, hs⟩ := h
  exact ⟨g, cap, rfl, h1, h2, hs.below hb⟩
theorem Lent.only {S : Nat → Prop} (h : Lent E M base w u l) (ho : Only S w w') (hS : ∀ b, base ≤ b → ¬ S b) : Lent E M base w' u l := by
  obtain ⟨g, cap, rfl, h1, h2, hs⟩ := h
  refine ⟨g, cap, rfl, h1, h2, hs.onlyS ho fun b hb => hS b ?_⟩
  simp only [Value.ownBlock, Option.some.injEq] at hb
  omega
theorem Lent.onlyB {S : Nat → Prop} (h : Lent E M base w u l) (ho : Only S w w') (hS : ∀ b, u.ownBlock = some b → ¬ S b) : Lent E M base w' u l := by
  obtain ⟨g, cap, rfl, h1, h2, hs⟩ := h
  exact ⟨g, cap, rfl, h1, h2, hs.onlyS ho fun b hb => hS b hb⟩
theorem Lent.lower {b' : Nat} (h : Lent E M base w u l) (hb : b' ≤ base) : Lent E M b' w u l := by
  obtain ⟨g, cap, rfl, h1, h2, hs⟩ := h
  exact ⟨g, cap, rfl, Nat.le_trans hb h1, h2, hs⟩
theorem Lent.form (h : Lent E M base w u l) : ∃ g cap, u = .slice (some ⟨g, 0, none⟩) l.length cap ∧ base ≤ g := by
  obtain ⟨g, cap, rfl, h1, _⟩ := h
  exact ⟨g, cap, rfl, h1⟩
end
/-- a derivation whose lists are lent -/
def LentD (base : Nat) (w : World) (v : Value) (d : Drv) : Prop := ∃ ui ur, v = .agg #[.string ⟨d.1.toArray⟩, ui, ur] ∧ Lent ENm (marksN 1 12) base w ui d.2.1 ∧ Lent EB (marks 1 12) base w ur d.2.2
theorem LentD.drv {base : Nat} {w : World} {v : Value} {d : Drv} (h : LentD base w v d) : DrvAt w v d := by
  obtain ⟨ui, ur, rfl, h1, h2⟩ := h
  exact ⟨ui, ur, rfl, h1.slice, h2.slice⟩
theorem LentD.below {base : Nat} {w w' : World} {v : Value} {d : Drv} (h : LentD base w v d) (hb : Below w.heap.size w w') : LentD base w' v d := by
  obtain ⟨ui, ur, rfl, h1, h2⟩ := h
  exact ⟨ui, ur, rfl, h1.below hb, h2.below hb⟩
theorem drvZ : (Try.prog.info? 25).map (·.zero) = some (some (.agg #[.string .empty, .slice none 0 0, .slice none 0 0])) := by kernel_rfl
theorem drvU : Try.prog.underlying 25 = some (.struct (Try.prog.fieldsOf 25)) := by kernel_rfl
set_option maxRecDepth 100000 in
set_option maxHeartbeats 1000000 in
theorem lentDrv_any (v : Value) (d : Drv) (h1 : d.2.1.length ≤ 1048576) (h2 : d.2.2.length ≤ 1048576) (w : World) (hd : DrvAt w v d) :
    Calls Try.prog 13 #[v] w fun e w' => ∃ u, e = .returned u ∧ Below w.heap.size w w' ∧ LentD w.heap.size w' u d := by
  obtain ⟨vi, vr, rfl, hvi, hvr⟩ := hd
  have HVI := Lib.hid hvi
  have HVR := Lib.hid hvr
  clear hvi hvr
  go_enter Try.func13, Try.ntmps13
  go_wp2_with (first | (with_reducible refine Agg.wpList_box rfl 25 _ rfl (#[.string ⟨d.1.toArray⟩, vi, vr]) rfl ?_; intro g w1 hb hx1 hg) | (with_reducible refine Agg.wpList_zero rfl 25 rfl (#[.string .empty, .slice none 0 0, .slice none 0 0]) drvZ ?_; intro g2 w2 hb2 hx2 hg2) | (with_reducible refine Agg.wpList_loadL ((DrvL.of_blk hb).below hx2).inp rfl _ rfl rfl ?_))
  have hw2 := Agg.belowThen hx1 (Nat.le_refl _) hx2
  have hlg := hb.lt
  have hlg2 := hb2.lt
  have hsz1 := hx1.size
  refine (lentNams_any _ d.2.1 h1 w2 (HVI.out.below hw2)).mono ?_
  rintro e w3 ⟨u, rfl, hx3, hl3⟩
  have hw3 := Agg.belowThen hw2 (Nat.le_refl _) hx3
  obtain ⟨gu, cu, hu, hgu⟩ := hl3.form
  have hsz2 := hx2.size
  have hsz3 := hx3.size
  have hne : gu ≠ g := by omega
  obtain ⟨w4, hrun, hb4, ho4, hz4⟩ := ((hb.below hx2).below hx3).put (P := Try.prog) (ty := 22) 1 (by simp) u (by rw [hu]; rfl) (by rw [hu]; rfl) (by kernel_rfl)
  have hl4 := hl3.onlyB ho4 (fun b hb h => by have h : b = g := h; rw [hu] at hb; simp only [Value.ownBlock, Option.some.injEq] at hb; omega)
  have hr4 := (HVR.out.below hw3)
  have hb24 := ((hb2.below hx3).only ho4 (fun h => by have h : g2 = g := h; omega))
  have hw4 : Below w.heap.size w w4 := hw3.trans (ho4.below (B := w.heap.size) (by omega) (fun i hi => by have hi : i = g := hi; omega))
  have HW4 := Lib.hid hw4
  have HVR4 := Lib.hid (HVR.out.below hw4)
  have HL4 := Lib.hid hl4
  have hb4 : Blk w4 g 25 #[.string ⟨d.1.toArray⟩, u, vr] := hb4
  have HB4 := Lib.hid (DrvL.of_blk hb4)
  clear hl3 hl4 hr4 hu
  go_wp2_with (first | (with_reducible refine Agg.wpList_store rfl rfl 22 _ _ rfl (.pointer (some ⟨g, 1, none⟩)) u rfl rfl hrun ?_) | (with_reducible refine Agg.wpList_loadL HB4.out.rcp rfl _ rfl rfl ?_))
  refine (lentBytes_any _ d.2.2 h2 w4 HVR4.out).mono ?_
  rintro e w5 ⟨u2, rfl, hx5, hl5⟩
  have hw5 := Agg.belowThen HW4.out (Nat.le_refl _) hx5
  have hl35 := HL4.out.below hx5
  obtain ⟨gu2, cu2, hu2, hgu2⟩ := hl5.form
  have hsz5 := hx5.size
  obtain ⟨w6, hrun6, hb6, ho6, hz6⟩ := (hb4.below hx5).put (P := Try.prog) (ty := 23) 2 (by simp) u2 (by rw [hu2]; rfl) (by rw [hu2]; rfl) (by kernel_rfl)
  have hl6 := hl5.onlyB ho6 (fun b hb h => by have h : b = g := h; rw [hu2] at hb; simp only [Value.ownBlock, Option.some.injEq] at hb; omega)
  obtain ⟨gu, cu, hu, hgu⟩ := hl35.form
  have hl36 := hl35.onlyB ho6 (fun b hb h => by have h : b = g := h; rw [hu] at hb; simp only [Value.ownBlock, Option.some.injEq] at hb; omega)
  have hb26 := (hb24.below hx5).only ho6 (fun h => by have h : g2 = g := h; omega)
  have hw6 : Below w.heap.size w w6 := hw5.trans (ho6.below (B := w.heap.size) (by omega) (fun i hi => by have hi : i = g := hi; omega))
  have HW6 := Lib.hid hw6
  have HL6 := Lib.hid hl6
  have HL36 := Lib.hid hl36
  have hb6 : Blk w6 g 25 #[.string ⟨d.1.toArray⟩, u, u2] := hb6
  have HB6 := Lib.hid (DrvL.of_blk hb6)
  have hone : (#[.string ⟨d.1.toArray⟩, u, u2] : Array Value).all (·.oneCell') = true := by rw [hu, hu2]; kernel_rfl
  have hold : (#[.string .empty, .slice none 0 0, .slice none 0 0] : Array Value).size = (#[.string ⟨d.1.toArray⟩, u, u2] : Array Value).size := rfl
  have hinf : (Try.prog.info? 25).map (·.size) = some (#[.string ⟨d.1.toArray⟩, u, u2] : Array Value).size := by kernel_rfl
  have HU := Lib.hid hu
  have HU2 := Lib.hid hu2
  clear hl5 hl6 hl36 hl35 hw6 hw5 hu hu2
  go_wp2_with (first | (with_reducible refine Agg.wpList_store rfl rfl 23 _ _ rfl (.pointer (some ⟨g, 2, none⟩)) u2 rfl rfl hrun6 ?_) | (with_reducible refine Agg.wpList_loadL HB6.out.all rfl _ rfl rfl ?_) | (with_reducible refine Agg.wpList_put rfl rfl 25 _ _ rfl g2 (#[.string ⟨d.1.toArray⟩, u, u2]) (#[.string .empty, .slice none 0 0, .slice none 0 0]) rfl rfl hb26 hinf hold hone ?_; intro w7 hb7 hx7 hz7 hk7))
  have ho7 : Only (· = g2) w6 w7 := ⟨hx7.os, hx7.tape, hx7.output, by omega, fun k _ hk => hk7 k hk⟩
  refine Agg.post_row rfl rfl hb7 drvU rfl (by kernel_rfl) rfl ⟨_, rfl, HW6.out.trans (hx7.mono (by omega)), _, _, rfl, (HL36.out.only ho7 ?_).lower (by omega), (HL6.out.only ho7 ?_).lower (by omega)⟩
  · intro b hb h
    have h : b = g2 := h
    omega
  · intro b hb h
    have h : b = g2 := h
    omega
theorem decide_self' {α : Type} [DecidableEq α] (a : α) : decide (a = a) = true := by simp
set_option maxRecDepth 100000 in
set_option maxHeartbeats 1000000 in
theorem keptDrv_any (u v : Value) (d : Drv) (h1 : d.2.1.length ≤ 1048576) (h2 : d.2.2.length ≤ 1048576) (base : Nat) (w : World) (hu : LentD base w u d) (hv : DrvAt w v d) :
    Calls Try.prog 19 #[u, v] w fun e w' => e = .returned (.bool true) ∧ Below w.heap.size w w' := by
  have hsame : ∀ W, Below w.heap.size w W → Calls Try.prog 21 #[u, v] W fun e w' => e = .returned (.bool true) ∧ Below W.heap.size W w' := fun W hW => by
    have := sameDrv_any u v d d h1 h1 h2 h2 W (hu.drv.below hW) (hv.below hW)
    rwa [decide_self'] at this
  have HSAME := Lib.hid hsame
  clear hsame
  obtain ⟨ui, ur, rfl, hui, hur⟩ := hu
  obtain ⟨vi, vr, rfl, hvi, hvr⟩ := hv
  have hkn : ∀ W, Below w.heap.size w W → Calls Try.prog 46 #[ui, vi] W fun e w' => e = .returned (.bool true) ∧ Below W.heap.size W w' := fun W hW => keptNams_any ui vi d.2.1 h1 base W (hui.below hW) (hvi.below hW)
  have hkb : ∀ W, Below w.heap.size w W → Calls Try.prog 47 #[ur, vr] W fun e w' => e = .returned (.bool true) ∧ Below W.heap.size W w' := fun W hW => keptBytes_any ur vr d.2.2 h2 base W (hur.below hW) (hvr.below hW)
  have HKN := Lib.hid hkn
  have HKB := Lib.hid hkb
  clear hkn hkb hui hur hvi hvr
  go_enter Try.func19, Try.ntmps19
  go_wp2_with (first | (with_reducible refine Agg.wpList_box rfl 25 _ rfl (#[.string ⟨d.1.toArray⟩, ui, ur]) rfl ?_; intro g w1 hb hx1 hg) | (with_reducible refine Agg.wpList_box rfl 25 _ rfl (#[.string ⟨d.1.toArray⟩, vi, vr]) rfl ?_; intro g2 w2 hb2 hx2 hg2) | (with_reducible refine Agg.wpList_loadL ((DrvL.of_blk hb).below hx2).all rfl _ rfl rfl ?_) | (with_reducible refine Agg.wpList_loadL (DrvL.of_blk hb2).all rfl _ rfl rfl ?_))
  have hw2 := Agg.belowThen hx1 (Nat.le_refl _) hx2
  have HW2 := Lib.hid hw2
  have HB1 := Lib.hid (DrvL.of_blk (hb.below hx2))
  have HB2 := Lib.hid (DrvL.of_blk hb2)
  clear hb hb2 hx1 hx2 hg hg2 hw2
  refine (HSAME.out _ HW2.out).mono ?_
  rintro e w3 ⟨rfl, hx3⟩
  have hw3 := Agg.belowThen HW2.out (Nat.le_refl _) hx3
  have HB13 := Lib.hid (HB1.out.below hx3)
  have HB23 := Lib.hid (HB2.out.below hx3)
  go_wp2_with (first | (with_reducible refine Agg.wpList_loadL HB13.out.inp rfl _ rfl rfl ?_) | (with_reducible refine Agg.wpList_loadL HB23.out.inp rfl _ rfl rfl ?_))
  refine (HKN.out _ hw3).mono ?_
  rintro e w4 ⟨rfl, hx4⟩
  have hw4 := Agg.belowThen hw3 (Nat.le_refl _) hx4
  have HB14 := Lib.hid (HB13.out.below hx4)
  have HB24 := Lib.hid (HB23.out.below hx4)
  go_wp2_with (first | (with_reducible refine Agg.wpList_loadL HB14.out.rcp rfl _ rfl rfl ?_) | (with_reducible refine Agg.wpList_loadL HB24.out.rcp rfl _ rfl rfl ?_))
  refine (HKB.out _ hw4).mono ?_
  rintro e w5 ⟨rfl, hx5⟩
  have hw5 := Agg.belowThen hw4 (Nat.le_refl _) hx5
  go_wp2_with fail
  go_ret
  exact ⟨rfl, hw5⟩

end Go.Proofs.Ytfgjepfmcmppaaa
/-! spencelaw17.TextPuts -/
namespace Go.Agg
open Go.RowKit
section
variable {P : Program} {ops : Array Oper} {rest : List Oper} {o : Oper} {a : Act} {w : World} {Q : Exit → Act → World → Prop} {α : Type} {E : Elem P α}
theorem wpList_slice2w (hg : Region.wanted o (yielded ops a.tmps) = true) (x y : Operand) (ho : o.op = .buildSlice E.st 2 #[(0, x), (1, y)]) (vx vy : α) (hx : a.eval x = E.val vx) (hy : a.eval y = E.val vy)
    (h : ∀ v' w', SliceOf E w' v' [vx, vy] → Below w.heap.size w w' → wpList P ops Q rest (a.put o.dst v') w') : wpList P ops Q (o :: rest) a w :=
  wpList_valw hg (v := .slice (some ⟨w.heap.size, 0, none⟩) 2 2) (w' := w.alloc (.cells ((E.val vx).cells ++ (E.val vy).cells) E.ty)) (by simp [execOp, ho, hx, hy, run_slice_two])
    (h _ _ (slice_of_block2 (Blk.new w E.ty _)) ((Below.refl _ _).alloc (Nat.le_refl _) _))
end
end Go.Agg
namespace Go.Proofs.Ytfgjepfmcmppaaa
open Go.RowKit Pl Go.Agg
theorem NewBytes.room {w w' : World} {v : Value} {s : List UInt8} (h : NewBytes w w' v s) : Room EB w' v s ∧ v.ownBlock = some w.heap.size := by
  have hs := h.slice
  obtain ⟨cap, fr, rfl, hc, hb, hf, _⟩ := h
  refine ⟨⟨_, 0, cap, rfl, hc, Agg.heap_lt hb, fun j hj => ?_, fun j hj => ?_, fun j u hj => ?_⟩, rfl⟩
  · have hj' : j < cap := by rw [show EB.n = 1 from rfl, Nat.mul_one] at hj; exact hj
    rw [cell_of_row _ _ _ _ _ _ hb, Array.getElem?_eq_getElem (by simp [Lib.byteCells]; omega)]
    rfl
  · have hj' : j < cap := by rw [show EB.n = 1 from rfl, Nat.mul_one] at hj; exact hj
    simp only [World.frozen?, hb]
    simp; omega
  · rcases hs with ⟨p, c, hv, hl⟩ | ⟨p, c, hv, hp, hcell⟩
    · subst hl; simp [Elem.flat] at hj
    · simp only [Value.slice.injEq, Option.some.injEq] at hv
      obtain ⟨rfl, _, rfl⟩ := hv
      have := hcell j u hj
      rwa [add_plain] at this
theorem PutOut.room {w w' : World} {v : Value} {s : List UInt8} (h : PutOut w w' v s) : RoomN EB w' v s ∧ (∀ b, v.ownBlock = some b → w.heap.size ≤ b) ∧ ∃ p n c, v = .slice p n c := by
  rcases h with ⟨rfl, rfl⟩ | ⟨w1, h1, h2⟩
  · exact ⟨.inl ⟨rfl, rfl⟩, fun b hb => by simp [Value.ownBlock] at hb, _, _, _, rfl⟩
  · obtain ⟨hr, ho⟩ := h2.room
    refine ⟨.inr hr, fun b hb => ?_, ?_⟩
    · rw [ho] at hb
      have := h1.size
      simp only [Option.some.injEq] at hb
      omega
    · obtain ⟨cap, fr, rfl, _⟩ := h2
      exact ⟨_, _, _, rfl⟩
theorem putB_le (d : Drv) : (putB d).length ≤ 2000 := by
  unfold putB
  split
  · split
    · assumption
    · simp
  · simp
theorem LentD.one {base : Nat} {w : World} {cs : Array Value} {d : Drv} (h : LentD base w (.agg cs) d) : cs.all (·.oneCell') = true := by
  obtain ⟨ui, ur, h, h1, h2⟩ := h
  obtain ⟨_, _, rfl, _⟩ := h1.form
  obtain ⟨_, _, rfl, _⟩ := h2.form
  obtain rfl := Value.agg.inj h
  kernel_rfl
/-- what is there lies apart from what came later -/
theorem DrvAt.onlyA {S : Nat → Prop} {w0 w w' : World} {v : Value} {d : Drv} (h0 : DrvAt w0 v d) (hb : Below w0.heap.size w0 w) (ho : Only S w w') (hS : ∀ b, S b → w0.heap.size ≤ b) : DrvAt w' v d :=
  h0.below (hb.trans (ho.below (B := w0.heap.size) hb.size hS))
theorem LentD.onlyA {S : Nat → Prop} {base : Nat} {w0 w w' : World} {v : Value} {d : Drv} (h0 : LentD base w0 v d) (hb : Below w0.heap.size w0 w) (ho : Only S w w') (hS : ∀ b, S b → w0.heap.size ≤ b) : LentD base w' v d :=
  h0.below (hb.trans (ho.below (B := w0.heap.size) hb.size hS))
def svOf (v : Value) (h : ∃ p n c, v = .slice p n c) : SV := ⟨v, h⟩
theorem two_rooms {w : World} {va vc : SV} {s : List UInt8} (ha : RoomN EB w va.1 s) (hc : RoomN EB w vc.1 s) : RoomsOf EB w [va, vc] (fun _ => s) := by
  intro k v hk
  match k, hk with
  | 0, hk => obtain rfl : va = v := by simpa using hk
             exact ha
  | 1, hk => obtain rfl : vc = v := by simpa using hk
             exact hc
theorem two_dist {va vc : SV} {B : Nat} (ha : ∀ b, va.1.ownBlock = some b → b < B) (hc : ∀ b, vc.1.ownBlock = some b → B ≤ b) : Dist [va, vc] := by
  intro i j u v hi hj hij b hu hv
  match i, j, hi, hj with
  | 0, 0, _, _ => exact hij rfl
  | 1, 1, _, _ => exact hij rfl
  | 0, 1, hi, hj =>
    obtain rfl : va = u := by simpa using hi
    obtain rfl : vc = v := by simpa using hj
    have := ha b hu; have := hc b hv; omega
  | 1, 0, hi, hj =>
    obtain rfl : vc = u := by simpa using hi
    obtain rfl : va = v := by simpa using hj
    have := ha b hv; have := hc b hu; omega
  | 0, n + 2, _, hj => simp at hj
  | 1, n + 2, _, hj => simp at hj
  | n + 2, _, hi, _ => simp at hi
theorem two_ss {va vc : SV} {B : Nat} (ha : ∀ b, va.1.ownBlock = some b → B ≤ b) (hc : ∀ b, vc.1.ownBlock = some b → B ≤ b) : ∀ b, SS [va, vc] b → B ≤ b := by
  rintro b ⟨k, v, hk, hv⟩
  match k, hk with
  | 0, hk => obtain rfl : va = v := by simpa using hk
             exact ha b hv
  | 1, hk => obtain rfl : vc = v := by simpa using hk
             exact hc b hv
set_option maxRecDepth 100000 in
set_option maxHeartbeats 4000000 in
theorem puts_any (v : Value) (d : Drv) (h1 : d.1.length ≤ 1048576) (h2 : d.2.1.length ≤ 1048576) (h3 : d.2.2.length ≤ 1048576) (h4 : namsSz d.2.1 ≤ 4194304) (w : World) (hd : DrvAt w v d) :
    Calls Try.prog 3 #[v] w fun e w' => e = .returned (.bool true) ∧ Below w.heap.size w w' := by
  have HD := Lib.hid hd
  obtain ⟨vi, vr, rfl, _, _⟩ := hd
  have hN : drvN 5000 d ≤ 8388608 := by
    have := drvGo_le 5000 d.2.1 (1 + d.1.length + d.2.2.length)
    unfold drvN; omega
  go_enter Try.func3, Try.ntmps3
  go_wp2_with (first | (with_reducible refine Agg.wpList_box rfl 25 _ rfl (#[.string ⟨d.1.toArray⟩, vi, vr]) rfl ?_; intro g w1 hb1 hx1 hg1) | (with_reducible refine Agg.wpList_loadL (DrvL.of_blk hb1).all rfl _ rfl rfl ?_))
  refine (drvOf_any _ d 5000 (by omega) h1 h3 h2 h4 _ (HD.out.below hx1)).mono ?_
  rintro e w2 ⟨rfl, hx2⟩
  have hw2 := Agg.belowThen hx1 (Nat.le_refl _) hx2
  have hsz1 := hx1.size
  have hsz2 := hx2.size
  have HB2 := Lib.hid (hb1.below hx2)
  have HD2 := Lib.hid (HD.out.below hw2)
  clear hb1 hx1 hx2
  by_cases hbig : drvN 5000 d ≤ 5000
  · have hd5 : decide (5000 < (drvN 5000 d : Int)) = false := by simp; omega
    go_wp2_with (first | (with_reducible refine Agg.wpList_loadL (DrvL.of_blk HB2.out).all rfl _ rfl rfl ?_))
    refine (lentDrv_any _ d h2 h3 _ HD2.out).mono ?_
    rintro e w3 ⟨u, rfl, hx3, hl3⟩
    have HLD := Lib.hid hl3
    obtain ⟨ui, ur, rfl, _, _⟩ := hl3
    have HONE := Lib.hid HLD.out.one
    have hw3 := Agg.belowThen hw2 (Nat.le_refl _) hx3
    have hsz3 := hx3.size
    have HB3 := Lib.hid (HB2.out.below hx3)
    go_wp2_with (first | (refine Agg.wpList_new rfl rfl rfl 25 3 15 rfl rfl rfl (by decide) (#[.string .empty, .slice none 0 0, .slice none 0 0]) (#[.string ⟨d.1.toArray⟩, ui, ur]) drvZ (rfl) (by kernel_rfl) (HONE.out) rfl (by simp [Act.put]) ?_; intro g4 w4 hb4 hx4 hg4) | (with_reducible refine Agg.wpList_loadL (DrvL.of_blk hb4).all rfl _ rfl rfl ?_))
    have hw4 := Agg.belowThen hw3 (Nat.le_refl _) hx4
    have hsz4 := hx4.size
    have HLD4 := Lib.hid (HLD.out.below hx4)
    have HD4 := Lib.hid (HD.out.below hw4)
    have HB14 := Lib.hid (HB3.out.below hx4)
    have hgl := hb4.lt
    refine (put_any _ d h2 _ HLD4.out.drv).mono ?_
    rintro e w5 ⟨va, rfl, hoa, hx5⟩
    obtain ⟨hra, hga, hfa⟩ := hoa.room
    have hw5 := Agg.belowThen hw4 (Nat.le_refl _) hx5
    have hsz5 := hx5.size
    have HRA := Lib.hid hra
    have HB15 := Lib.hid (HB14.out.below hx5)
    have HB45 := Lib.hid (hb4.below hx5)
    have HD5 := Lib.hid (HD.out.below hw5)
    clear hoa hra
    go_wp2_with (first | (with_reducible refine Agg.wpList_loadL (DrvL.of_blk HB15.out).all rfl _ rfl rfl ?_))
    refine (refPut_any _ d h1 h2 h4 _ HD5.out).mono ?_
    rintro e w6 ⟨vb, rfl, hob, hx6⟩
    have HVB := Lib.hid hob.room.1.slice
    have hw6 := Agg.belowThen hw5 (Nat.le_refl _) hx6
    have hsz6 := hx6.size
    have HB46 := Lib.hid (HB45.out.below hx6)
    have HB16 := Lib.hid (HB15.out.below hx6)
    have HLD6 := Lib.hid ((HLD4.out.below hx5).below hx6)
    clear hob
    go_wp2_with (first | (with_reducible refine Agg.wpList_loadL (DrvL.of_blk HB46.out).all rfl _ rfl rfl ?_))
    refine (put_any _ d h2 _ HLD6.out.drv).mono ?_
    rintro e w7 ⟨vc, rfl, hoc, hx7⟩
    obtain ⟨hrc, hgc, hfc⟩ := hoc.room
    have hw7 := Agg.belowThen hw6 (Nat.le_refl _) hx7
    have hsz7 := hx7.size
    have h57 := Agg.belowThen hx6 (Nat.le_refl _) hx7
    have h47 := Agg.belowThen hx5 (Nat.le_refl _) h57
    have HRA7 := Lib.hid (HRA.out.below h57)
    have HRC7 := Lib.hid hrc
    have HVB7 := Lib.hid (HVB.out.below hx7)
    have HB47 := Lib.hid (HB46.out.below hx7)
    have HB17 := Lib.hid (HB16.out.below hx7)
    have HLD7 := Lib.hid (HLD6.out.below hx7)
    have HD7 := Lib.hid (HD.out.below hw7)
    have HLA := Lib.hid HRA.out.lt
    have HGA := Lib.hid hga
    have HGC := Lib.hid hgc
    obtain ⟨sa, rfl⟩ : ∃ sa : SV, va = sa.1 := ⟨⟨va, hfa⟩, rfl⟩
    obtain ⟨sc, rfl⟩ : ∃ sc : SV, vc = sc.1 := ⟨⟨vc, hfc⟩, rfl⟩
    have HL4 := Lib.hid (DrvL.of_blk HB47.out)
    have HL1 := Lib.hid (DrvL.of_blk HB17.out)
    have hpl := putB_le d
    obtain ⟨cb, hcb⟩ : ∃ b, canDrv d = b := ⟨_, rfl⟩
    have hcc : (cb == cb) = true := by simp
    have hcan : ∀ x : Later w7, Calls Try.prog 16 #[.agg #[.string ⟨d.1.toArray⟩, ui, ur]] x.w fun e w' => e = .returned (.bool cb) ∧ Below x.w.heap.size x.w w' := fun x => by
      have := textCan_any _ d h2 x.w (HLD7.out.below x.h).drv
      rwa [hcb] at this
    have hrcan : ∀ x : Later w7, Calls Try.prog 17 #[.agg #[.string ⟨d.1.toArray⟩, vi, vr]] x.w fun e w' => e = .returned (.bool cb) ∧ Below x.w.heap.size x.w w' := fun x => by
      have := refCan_any _ d h1 h2 h4 x.w (HD7.out.below x.h)
      rwa [hcb] at this
    have hsb : ∀ x : Later w7, Calls Try.prog 18 #[sa.1, vb] x.w fun e w' => e = .returned (.bool true) ∧ Below x.w.heap.size x.w w' := fun x => by
      have := sameBytes_any sa.1 vb (putB d) (putB d) (by omega) (by omega) x.w ((HRA7.out.below x.h).slice) (HVB7.out.below x.h)
      rwa [decide_self'] at this
    have hkd : ∀ x : Later w7, Calls Try.prog 19 #[.agg #[.string ⟨d.1.toArray⟩, ui, ur], .agg #[.string ⟨d.1.toArray⟩, vi, vr]] x.w fun e w' => e = .returned (.bool true) ∧ Below x.w.heap.size x.w w' := fun x => keptDrv_any _ _ d h2 h3 _ x.w (HLD7.out.below x.h) (HD7.out.below x.h)
    have HCAN := Lib.hid hcan
    have HRCAN := Lib.hid hrcan
    have HSB := Lib.hid hsb
    have HKD := Lib.hid hkd
    have hee : ((putE d : Int) == (putE d : Int)) = true := by simp
    clear hcb hcan hrcan hsb hkd hfa hfc hrc hoc hga hgc
    go_wp2_with fail
    try simp only [List.append_eq, List.cons_append, List.nil_append]
    try simp only [Act.put, List.setIfInBounds_toArray, List.set_cons_succ, List.set_cons_zero]
    refine Agg.wp_region_mid 23 25 (fun w' => ∃ x : Later w7, w' = x.w) (by kernel_rfl) (by kernel_rfl) ⟨⟨_, (Below.refl _ _).drew⟩, rfl⟩ ?_
    simp only [List.take_succ_cons, List.take_zero, List.drop_succ_cons, List.drop_zero]
    repeat (first | go_big_quiet_skip | ((first | (with_reducible refine Agg.wpQuiet_loadL HL4.out.all rfl _ rfl rfl ?_) | (with_reducible refine Agg.wpQuiet_loadL HL1.out.all rfl _ rfl rfl ?_)); simp only [Act.put, List.setIfInBounds_toArray, List.set_cons_succ, List.set_cons_zero]) | go_big_quiet_step ((first | (go_at_call 16; exact Agg.Calls.later (HCAN.out _)) | (go_at_call 17; exact Agg.Calls.later (HRCAN.out _)) | (go_at_call 18; exact Agg.Calls.later (HSB.out _)) | (go_at_call 19; exact Agg.Calls.later (HKD.out _)))))
    refine wpQuiet_nil ?_
    intro _ hw'
    obtain ⟨x1, rfl⟩ := hw'
    go_wp2_with (first | (refine Agg.wpList_slice2w (E := EBB) rfl _ _ rfl sa sc rfl rfl ?_; intro v8 w8 hs8 hx8))
    have h78 := Agg.belowThen x1.h (Nat.le_refl _) hx8
    have h48 := Agg.belowThen h47 (Nat.le_refl _) h78
    have hsz8 := h48.size
    refine (apartBytes_any v8 [sa, sc] (fun _ => putB d) w8 hs8 (two_rooms (HRA7.out.below h78) (HRC7.out.below h78)) (two_dist (B := w6.heap.size) (fun b hb => by have := HLA.out b hb; omega) HGC.out) (by simp) (fun _ => by omega)).mono ?_
    rintro e w9 ⟨rfl, ho9⟩
    have hss : ∀ b, SS [sa, sc] b → w4.heap.size ≤ b := two_ss (B := w4.heap.size) HGA.out (fun b hb => by have := HGC.out b hb; omega)
    have HL49 := Lib.hid (DrvL.of_blk ((HB47.out.below h78).only ho9 (fun h => by have := hss _ h; omega)))
    have HL19 := Lib.hid (DrvL.of_blk ((HB17.out.below h78).only ho9 (fun h => by have := hss _ h; have := HB14.out.lt; omega)))
    have hld9 := HLD4.out.onlyA h48 ho9 hss
    have hd9 := HD4.out.onlyA h48 ho9 hss
    have hw9 : Below w.heap.size w w9 := (hw4.trans (h48.mono (by omega))).trans (ho9.below (B := w.heap.size) (by omega) (fun i hi => by have := hss i hi; omega))
    have hkd9 : ∀ x : Later w9, Calls Try.prog 19 #[.agg #[.string ⟨d.1.toArray⟩, ui, ur], .agg #[.string ⟨d.1.toArray⟩, vi, vr]] x.w fun e w' => e = .returned (.bool true) ∧ Below x.w.heap.size x.w w' := fun x => keptDrv_any _ _ d h2 h3 _ x.w (hld9.below x.h) (hd9.below x.h)
    have HKD9 := Lib.hid hkd9
    have HW9 := Lib.hid hw9
    clear hkd9 hld9 hd9 hw9
    go_wp2_with fail
    refine ⟨fun w' => ∃ x : Later w9, w' = x.w, ⟨Later.mk' w9, rfl⟩, ?_⟩
    repeat (first | go_big_quiet_skip | ((first | (with_reducible refine Agg.wpQuiet_loadL HL49.out.all rfl _ rfl rfl ?_) | (with_reducible refine Agg.wpQuiet_loadL HL19.out.all rfl _ rfl rfl ?_)); simp only [Act.put, List.setIfInBounds_toArray, List.set_cons_succ, List.set_cons_zero]) | go_big_quiet_step ((first | (go_at_call 19; exact Agg.Calls.later (HKD9.out _)) | (go_at_call 12; exact Agg.Calls.later (awake17_any _)))))
    refine wpQuiet_nil ?_
    intro _ hw'
    obtain ⟨x2, rfl⟩ := hw'
    go_wp2_with fail
    go_ret
    exact ⟨rfl, Agg.belowThen HW9.out (Nat.le_refl _) x2.h⟩
  · have hd5 : decide (5000 < (drvN 5000 d : Int)) = true := by simp; omega
    go_wp2_with fail
    refine (awake17_any _).mono ?_
    rintro e w3 ⟨rfl, hx3⟩
    go_wp2_with fail
    go_ret
    exact ⟨rfl, Agg.belowThen hw2 (Nat.le_refl _) hx3⟩
end Go.Proofs.Ytfgjepfmcmppaaa
/-! TextPuts, proved. -/
namespace Go.Proofs.Ytfgjepfmcmppaaa
open Go.ChangeShapes Go.WideShapes Go.ChangeAt Go.RowKit Go.Agg
set_option maxRecDepth 100000 in
theorem textPuts_lifted (os : Os) (started : os.Started) (H : Type) (enc : TypeId × Value → H) (F : Stop.Interp) :
    ReturnsInHanded {} Try.checked os 3 .any ((Rows.OpenSpec.upto Rows.textPutsSpec).pre6 enc Try.prog Try.f3 Rows.textPutsUptoRow.domain false) (((Rows.OpenSpec.upto Rows.textPutsSpec).at F).post enc Try.prog Try.f3 false true false false) := by
  refine Agg.handed_cond_shaped (C := Try.checked) (s := Rows.OpenSpec.upto Rows.textPutsSpec) (k := Rows.uptoSmall) rfl own started (by kernel_rfl) Try.func3
    (OpenSpec.witness (enc := enc) (C := Try.checked) (s := Rows.OpenSpec.upto Rows.textPutsSpec) (k := Rows.uptoSmall) rfl false ⟨#[], #[.agg #[.string .empty, .slice none 0 0, .slice none 0 0]], []⟩ 8 (by kernel_rfl) (by kernel_rfl) (by kernel_rfl)
      (x := ([.agg [.lit (.string []), .nil, .nil]], [], [])) (by kernel_rfl) rfl (by kernel_rfl)) ?_
  intro W base args ds gs before hval0 hW hk hsh
  have hval : ∀ (j : Nat) t v, Try.f3.params[j]? = some t → args[j]? = some v → Value.okWide Try.prog W .any base t v := hval0
  have hW' := hW
  obtain ⟨p, q, hA0, hV, rfl, hfz, hnd⟩ := hW
  have hA : DataW.TrodAll enc Try.prog W 0 (fun _ => true) true Try.f3.params.toList args.toList ds p := hA0
  rw [Try.params3] at hA hval
  obtain ⟨v0, vs0, d0, ds0, p0, q0, hargs, rfl, rfl, h0, r0⟩ := trodAll_cons hA
  obtain ⟨rfl, rfl, rfl⟩ := trodAll_nil r0
  obtain rfl : args = #[v0] := by cases args; simp_all
  obtain ⟨rfl, rfl⟩ := trodVars_none hV
  obtain ⟨x0, hs0, hb0⟩ := open_drv (hval 0 25 v0 rfl rfl) h0
  clear hA0 hval0
  simp only [List.append_nil] at hW' hk
  have hsm : Rows.uptoBulk d0 ≤ 1048576 := by
    have hb := of_decide_eq_true hk
    simp only [Rows.uptoBulkAll] at hb
    omega
  refine (puts_any v0 x0 (by omega) (by omega) (by omega) (by omega) W hs0).mono fun e W' ⟨he, hg⟩ => ?_
  subst he
  exact ⟨_, rfl, Agg.post_law (bt := 4) hW' rfl laidOut (of_decide_eq_true (by kernel_rfl)) rfl rfl rfl rfl Try.underlying4 hg⟩
theorem textPuts_proved : Rows.TextPutsUptoSaid :=
  OpenClaim.holds_of_cond 3 Try.f3 rfl rfl rfl rfl rfl rfl rfl ⟨rfl, rfl, rfl, rfl, rfl⟩ rfl rfl rfl rfl rfl (by kernel_rfl) Try.func3 (by kernel_rfl)
    (of_decide_eq_true (by kernel_rfl)) (by unfold Func.isWrapper; first | (rw [if_pos (by decide +kernel)]; kernel_rfl) | (rw [if_neg (by decide +kernel)]; exact ⟨rfl, rfl⟩))
    (fun os started H enc _ F => textPuts_lifted os started H enc F)
end Go.Proofs.Ytfgjepfmcmppaaa
