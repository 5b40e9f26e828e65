/- spenceref08.Way: a way's names, one slash after the other. -/
import Derived.Test.YtfiadgdinhmgbaaGreatDoorEAW
import Derived.Test.YtfiadgdinhmgbaaGreatDoorEAL
namespace Go.Tr
theorem splitB_part {a : Nat} {i : Nat} {s : List UInt8} (hai : a ≤ i) (_hi : i < s.length) (hs : s[i]? = some 47) (hn : (47 : UInt8) ∉ (s.drop a).take (i - a)) : splitB (s.drop a) = (s.drop a).take (i - a) :: splitB (s.drop (i + 1)) := by
 have e : s.drop a = (s.drop a).take (i - a) ++ (47 :: s.drop (i + 1)) := by
  have h1 := (List.take_append_drop (i - a) (s.drop a)).symm
  rw [List.drop_drop, show a + (i - a) = i by omega] at h1
  obtain ⟨hlt, he⟩ := List.getElem?_eq_some_iff.1 hs
  rw [List.drop_eq_getElem_cons hlt, he] at h1
  exact h1
 conv => lhs; rw [e]
 exact splitB_cons _ _ hn
theorem splitB_last {a : Nat} {s : List UInt8} (hn : (47 : UInt8) ∉ s.drop a) : splitB (s.drop a) = [s.drop a] := splitB_name _ hn
theorem part_snoc {a i : Nat} {s : List UInt8} {c : UInt8} (hai : a ≤ i) (hc : s[i]? = some c) (h47 : c ≠ 47) (hn : (47 : UInt8) ∉ (s.drop a).take (i - a)) : (47 : UInt8) ∉ (s.drop a).take (i + 1 - a) := by
 have e : (s.drop a).take (i + 1 - a) = (s.drop a).take (i - a) ++ [c] := by
  rw [show i + 1 - a = (i - a) + 1 by omega, List.take_add_one, List.getElem?_drop, show a + (i - a) = i by omega, hc]; rfl
 rw [e]
 simp only [List.mem_append, List.mem_singleton, not_or]
 exact ⟨hn, fun e => h47 e.symm⟩
end Go.Tr
namespace Go.Proofs.YtfiadgdinhmgbaaGreatDoor
open Go.RowKit Pl Go.Agg Go.Tr
theorem run_cut (s : List UInt8) (a i : Nat) (hai : a ≤ i) (hi : i ≤ s.length) (W : World) : (Instr.slice 9 (.string ⟨s.toArray⟩) (some (.int .i64 (a : Int))) (some (.int .i64 (i : Int))) none).run Tryz.prog W = .ok (.string ⟨((s.drop a).take (i - a)).toArray⟩) W := by
 have hsz := Agg.bytes_size s
 have h := run_slice_string (P := Tryz.prog) W 9 ⟨s.toArray⟩ .i64 .i64 (a : Int) (i : Int) Tryz.underlying9 (by omega) (by omega) (by rw [hsz]; omega)
 rw [h]
 simp only [Int.toNat_natCast]
 rw [Agg.bytes_extract, List.drop_take]
theorem exec_cut {o : Oper} {a : Act} {w : World} {t : TypeId} {x y z : Operand} {v lo hi r : Value} (ho : o.op = .slice t x (some y) (some z) none) (hx : a.eval x = v) (hy : a.eval y = lo) (hz : a.eval z = hi) (hrun : ∀ W, (Instr.sliceAt t v (some lo) (some hi) none).run Tryz.prog W = .ok r W) : (execOp a.eval o).run Tryz.prog w = .ok (.value r) w := by
 subst hx hy hz
 simp [execOp, ho, hrun]
set_option maxRecDepth 100000 in
set_option maxHeartbeats 8000000 in
theorem rway_any (s : List UInt8) (hs : s.length ≤ 1048576) (w : World) :
  Calls Tryz.prog 57 #[.string ⟨s.toArray⟩] w fun e w' => ∃ v, e = .returned (.tuple #[v, .int .i64 (wyE s : Int)]) ∧ Agg.Own ES w.heap.size w' v (wyL s) ∧ Below w.heap.size w w' := by
 have hsz := Agg.bytes_size s
 have HS := Lib.hid hsz
 have hlen : ∀ w, (Builtin.len_ #[9] 3 #[.string ⟨s.toArray⟩]).run Tryz.prog w = .ok (.int .i64 (s.length : Int)) w := fun w => by rw [run_len_string w _ 3 _ Tryz.underlying9, hsz]; rfl
 clear hsz
 go_enter Tryz.func57, Tryz.ntmps57
 by_cases h0 : s = []
 ·have HE := Lib.hid (show decide (s = []) = true by simp [h0])
  have HW := Lib.hid (show wyE s = 0 ∧ wyL s = [] by rw [h0]; exact ⟨rfl, rfl⟩)
  clear h0
  go_wp2_with (first | (with_reducible refine wpList_eqlS (r := []) rfl rfl rfl rfl true HE.out ?_))
  go_ret2
  exact ⟨_, by rw [HW.out.1]; rfl, by rw [HW.out.2]; exact Agg.Own.nil _ _ _, Below.refl _ _⟩
 have HE := Lib.hid (show decide (s = []) = false by simp [h0])
 have HWY := Lib.hid (show wayN s = if (splitB s).all Pl.isName then some (splitB s) else none by rw [wayN, if_neg h0])
 clear h0
 go_wp2_with (first | (with_reducible refine wpList_eqlS (r := []) rfl rfl rfl rfl false HE.out ?_))
 go_loopw [4, 5, 6] (fun v4 v5 v6 wr => ∃ (ns : N) (a i : Nat), v5 = .int .i64 (a : Int) ∧ v6 = .int .i64 (i : Int) ∧ ((a ≤ i ∧ i ≤ s.length ∧ ns ++ splitB (s.drop a) = splitB s ∧ (47 : UInt8) ∉ (s.drop a).take (i - a)) ∨ (i = s.length + 1 ∧ ns = splitB s)) ∧ ns.all Pl.isName = true ∧ ns.length ≤ i ∧ Agg.Own ES w.heap.size wr v4 ns ∧ Below w.heap.size w wr) (fun _ _ i _ => s.length + 1 - (intOf i).toNat)
 case atStart => exact ⟨[], 0, 0, rfl, rfl, .inl ⟨by omega, by omega, rfl, by simp⟩, rfl, by simp, Agg.Own.nil _ _ _, Below.refl _ _⟩
 case round =>
  obtain ⟨w1, rfl⟩ : ∃ y : World, y = wr := ⟨_, rfl⟩
  obtain ⟨ns, a, i, rfl, rfl, hcase, hall, hnl, ho, hx⟩ := hrel
  have HALL := Lib.hid hall
  have HO := Lib.hid ho
  have HX := Lib.hid hx
  clear hall ho hx
  rcases hcase with ⟨hai, hi, heq, hn⟩ | ⟨hi, hns⟩
  ·have hd : decide ((i : Int) ≤ (s.length : Int)) = true := by simp; omega
   have HEQ := Lib.hid heq
   have HN := Lib.hid hn
   clear heq hn
   -- a part that ends here
   have hpart : ∀ (p : List UInt8), (∃ more, splitB (s.drop a) = p :: more) → p.length ≤ 1048576 → (isName p = false → wyE s = 4 ∧ wyL s = []) := by
    intro p ⟨more, hm⟩ _ hp
    have hbad : (splitB s).all Pl.isName = false := by rw [← HEQ.out, hm]; simp [hp]
    have hw : wayN s = none := by rw [HWY.out, hbad]; rfl
    simp [wyE, wyL, hw]
   have HPART := Lib.hid hpart
   clear hpart
   by_cases hlt : i < s.length
   ·have hd2 : decide ((i : Int) < (s.length : Int)) = true := by simp; omega
    obtain ⟨c, hc⟩ : ∃ c, s[i]? = some c := ⟨_, List.getElem?_eq_getElem hlt⟩
    have hix := fun w => Agg.run_index_str (P := Tryz.prog) (k := .i64) (c := c) w Tryz.underlying9 hc
    by_cases h47 : c = 47
    ·subst h47
     have hsp := splitB_part hai hlt hc HN.out
     obtain ⟨p, hp⟩ : ∃ p, (s.drop a).take (i - a) = p := ⟨_, rfl⟩
     rw [hp] at hsp
     have HSP := Lib.hid hsp
     have HP := Lib.hid hp
     have hpl : p.length ≤ 1048576 := by rw [← hp, List.length_take, List.length_drop]; omega
     have hcut := fun W => run_cut s a i hai hi W
     rw [hp] at hcut
     clear hsp hp hc
     go_wp2_with (first | (refine Agg.wpList_valw rfl (exec_cut rfl rfl rfl rfl hcut) ?_))
     cases hnm : isName p with
     | false =>
      have HW := Lib.hid (HPART.out p ⟨_, HSP.out⟩ hpl hnm)
      refine (refNameD p hnm hpl _).mono ?_
      rintro e w2 ⟨rfl, hx⟩
      have HX2 := Lib.hid (belowThen HX.out (Nat.le_refl _) hx)
      clear hx
      go_wp2_with fail
      go_ret2
      exact ⟨_, by rw [HW.out.1]; rfl, by rw [HW.out.2]; exact Agg.Own.nil _ _ _, HX2.out⟩
     | true =>
      have HNM := Lib.hid hnm
      refine (refNameD p hnm hpl _).mono ?_
      rintro e w2 ⟨rfl, hx⟩
      have HO2 := Lib.hid (HO.out.below hx)
      have HX2 := Lib.hid (belowThen HX.out (Nat.le_refl _) hx)
      clear hx hnm
      go_wp2_with (first | (refine Agg.wpList_valw rfl (exec_cut rfl rfl rfl rfl hcut) ?_) | (refine wpList_push (E := ES) rfl rfl 36 rfl _ rfl _ rfl p rfl (fun _ => rfl) (by first | (simp; done) | simp [Act.put]) HO2.out (by omega) (by decide) HX2.out.size ?_; intro u36 v37 w3 ho hp; have HO3 := Lib.hid ho; have HX3 := Lib.hid (HX2.out.trans (hp.below _ (Nat.le_refl _) HX2.out.size)); clear ho hp))
      go_roundw
      case rel => exact ⟨ns ++ [p], i + 1, i + 1, by go_num, by go_num, .inl ⟨by omega, by omega, by rw [← HEQ.out, HSP.out]; simp, by simp⟩, by simp [HALL.out, HNM.out], by rw [List.length_append]; simp only [List.length_singleton]; omega, HO3.out, HX3.out⟩
      case measure => simp [intOf] <;> omega
    ·have h47n : decide (¬ (c.toNat : Int) = 47) = true := by
      apply decide_eq_true
      intro h
      exact h47 (UInt8.toNat_inj.1 (by simpa using (by omega : c.toNat = 47)))
     have h47b : ((c.toNat : Int) != 47) = true := by
      rw [bne_iff_ne]
      intro h
      exact h47 (UInt8.toNat_inj.1 (by simpa using (by omega : c.toNat = 47)))
     have HNX := Lib.hid (part_snoc hai hc h47 HN.out)
     clear hc h47
     go_wp2_with fail
     go_roundw
     case rel => exact ⟨ns, a, i + 1, rfl, by go_num, .inl ⟨by omega, by omega, HEQ.out, HNX.out⟩, HALL.out, by omega, HO.out, HX.out⟩
     case measure => simp [intOf] <;> omega
   ·obtain rfl : i = s.length := by omega
    have hd2 : decide (((s.length : Nat) : Int) < ((s.length : Nat) : Int)) = false := by simp
    have hp0 : (s.drop a).take (s.length - a) = s.drop a := by rw [List.take_of_length_le (by rw [List.length_drop]; omega)]
    have hsp : splitB (s.drop a) = [s.drop a] := splitB_last (by have := HN.out; rwa [hp0] at this)
    obtain ⟨p, hp⟩ : ∃ p, s.drop a = p := ⟨_, rfl⟩
    have hpl : p.length ≤ 1048576 := by rw [← hp, List.length_drop]; omega
    have hcut := fun W => run_cut s a s.length hai (Nat.le_refl _) W
    rw [hp0, hp] at hcut
    have HSP := Lib.hid (show splitB (s.drop a) = [p] by rw [hsp, hp])
    clear hsp hp hp0
    go_wp2_with (first | (refine Agg.wpList_valw rfl (exec_cut rfl rfl rfl rfl hcut) ?_))
    cases hnm : isName p with
    | false =>
     have HW := Lib.hid (HPART.out p ⟨_, HSP.out⟩ hpl hnm)
     refine (refNameD p hnm hpl _).mono ?_
     rintro e w2 ⟨rfl, hx⟩
     have HX2 := Lib.hid (belowThen HX.out (Nat.le_refl _) hx)
     clear hx
     go_wp2_with fail
     go_ret2
     exact ⟨_, by rw [HW.out.1]; rfl, by rw [HW.out.2]; exact Agg.Own.nil _ _ _, HX2.out⟩
    | true =>
     have HNM := Lib.hid hnm
     refine (refNameD p hnm hpl _).mono ?_
     rintro e w2 ⟨rfl, hx⟩
     have HO2 := Lib.hid (HO.out.below hx)
     have HX2 := Lib.hid (belowThen HX.out (Nat.le_refl _) hx)
     clear hx hnm
     go_wp2_with (first | (refine Agg.wpList_valw rfl (exec_cut rfl rfl rfl rfl hcut) ?_) | (refine wpList_push (E := ES) rfl rfl 36 rfl _ rfl _ rfl p rfl (fun _ => rfl) (by first | (simp; done) | simp [Act.put]) HO2.out (by omega) (by decide) HX2.out.size ?_; intro u36 v37 w3 ho hp; have HO3 := Lib.hid ho; have HX3 := Lib.hid (HX2.out.trans (hp.below _ (Nat.le_refl _) HX2.out.size)); clear ho hp))
     go_roundw
     case rel => exact ⟨ns ++ [p], s.length + 1, s.length + 1, by go_num, by go_num, .inr ⟨rfl, by rw [← HEQ.out, HSP.out]⟩, by simp [HALL.out, HNM.out], by rw [List.length_append]; simp only [List.length_singleton]; omega, HO3.out, HX3.out⟩
     case measure => simp [intOf] <;> omega
  ·have hd : decide ((i : Int) ≤ (s.length : Int)) = false := by simp; omega
   have hw : wayN s = some (splitB s) := by rw [HWY.out, ← hns, HALL.out]; rfl
   have HW := Lib.hid (show wyE s = 0 ∧ wyL s = ns by rw [hns]; simp [wyE, wyL, hw])
   clear hw hns
   go_wp2_with fail
   go_ret2
   exact ⟨_, by rw [HW.out.1]; rfl, by rw [HW.out.2]; exact HO.out, HX.out⟩
end Go.Proofs.YtfiadgdinhmgbaaGreatDoor
