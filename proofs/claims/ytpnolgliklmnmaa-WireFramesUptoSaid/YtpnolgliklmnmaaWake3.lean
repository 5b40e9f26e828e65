/- spencelaw28.awake answers true. -/
import Derived.Test.YtpnolgliklmnmaaWake2
namespace Go.Proofs.Ytpnolgliklmnmaa
open Go.RowKit Pl Go.Agg
theorem wake_framed : framed [[7, 2]] = [2, 7, 2] := by
  have : framed [[7, 2]] = encN 2 ++ [7, 2] := by simp [framed]
  rw [this, enc2]; rfl
theorem wake_frames : frames [2, 7, 2, 5, 1] = some ([[7, 2]], [5, 1]) := by
  have h := frames_append _ (framed [[7, 2]]) [5, 1] (Nat.le_refl _)
  rw [frames_framed [[7, 2]] (by simp), wake_framed] at h
  have h2 : frames [5, 1] = some ([], [5, 1]) := frames_end (b := [5, 1]) (by decide) (.inr (by decide))
  simpa [h2] using h
theorem only_below {S : Nat → Prop} {w0 w w' : World} (hb : Below w0.heap.size w0 w) (ho : Only S w w') (hS : ∀ b, S b → w0.heap.size ≤ b) : Below w0.heap.size w0 w' := hb.trans (ho.below (B := w0.heap.size) hb.size hS)
set_option maxRecDepth 100000 in
set_option maxHeartbeats 2000000 in
theorem awake28_any (w : World) : Calls Try.prog 8 #[] w fun e w' => e = .returned (.bool true) ∧ Below w.heap.size w w' := by
  go_enter Try.func8, Try.ntmps8
  go_wp2_with (first | (with_reducible refine Agg.wpList_build2 46 0 _ 1 _ rfl rfl (.int .i64 7) (.int .i64 2) rfl rfl (.agg rqC) build_rq ?_))
  refine (put7 w).mono ?_
  rintro e w1 ⟨v1, rfl, ho1, hx1⟩
  obtain ⟨s1, rfl⟩ : ∃ s : SV, v1 = s.1 := by
    obtain ⟨p, c, h⟩ := ho1.slice.form
    exact ⟨⟨v1, p, _, c, h⟩, rfl⟩
  have HO1 := Lib.hid ho1
  have HX1 := Lib.hid hx1
  have hsz1 := hx1.size
  clear ho1 hx1
  go_wp2_with (first | (refine Agg.wpList_slice1 (E := EBB) (base := w1.heap.size) rfl _ rfl s1 rfl (Nat.le_refl _) ?_; intro xs w2 hxs hx2; have HXS := Lib.hid hxs; have HX2 := Lib.hid hx2; clear hxs hx2))
  have hri : RowsIn w2 [s1] [[7, 2]] := ⟨rfl, fun k s l h1 h2 => by
    match k, h1, h2 with
    | 0, h1, h2 =>
      obtain rfl : s1 = s := by simpa using h1
      obtain rfl : [7, 2] = l := by simpa using h2
      exact (HO1.out.below HX2.out).slice⟩
  refine (frame_any xs [s1] [[7, 2]] w2 HXS.out.slice hri (by simp) (by rw [wake_framed]; simp) (by simp)).mono ?_
  rintro e w3 ⟨v3, rfl, ho3, hx3⟩
  rw [wake_framed] at ho3
  have h13 := Agg.belowThen HX2.out (Nat.le_refl _) hx3
  have HX3 := Lib.hid (Agg.belowThen HX1.out (Nat.le_refl _) h13)
  have HO3 := Lib.hid ho3
  have HB1 := Lib.hid (HO1.out.below h13).slice
  have hsz2 := HX2.out.size
  have hsz13 := h13.size
  have hk1 : ∀ k, s1.1.ownBlock = some k → k < w1.heap.size := fun k hk => by
    obtain ⟨_, cur, hc⟩ := HO1.out.block k hk
    exact Agg.heap_lt hc
  have HK1 := Lib.hid hk1
  have hk3 : ∀ k, v3.ownBlock = some k → w2.heap.size ≤ k := fun k hk => (HO3.out.block k hk).1
  have HK3 := Lib.hid hk3
  have h63 : [2, 7, 2].length + [(5 : UInt8), 1].length ≤ 1099511627776 / 8 := by simp
  clear ho3 hri h13 hx3 hk1 hk3
  go_wp2_with (first | (refine Agg.wpList_slice2O (E := EB) rfl _ _ rfl 5 1 rfl rfl ?_; intro x4 w4 hx4s _ hx4; have HX4S := Lib.hid hx4s; have HX4 := Lib.hid hx4; have HR4 := Lib.hid (RoomN.of_own (HO3.out.below hx4)); clear hx4s hx4) | (refine Agg.wpList_appendR (E := EB) rfl _ _ rfl x4 rfl rfl [5, 1] HR4.out HX4S.out h63 (by decide) ?_; intro v5 w5 hv5 hv35 ho5; have HV5 := Lib.hid hv5; have HV35 := Lib.hid hv35; have HO5 := Lib.hid ho5; clear hv5 hv35 ho5))
  have hx4 := HX4.out
  have hb5 : BytesAt w5 s1.1 [7, 2] := (HB1.out.below hx4).onlyS HO5.out fun b hb h => by
    have := HK1.out b hb
    have := HK3.out b h
    omega
  have HB5 := Lib.hid hb5
  have HX5 := Lib.hid (only_below (Agg.belowThen HX3.out (Nat.le_refl _) hx4) HO5.out fun b h => by
    have := HK3.out b h
    omega)
  clear hb5
  refine (frames_any v5 [2, 7, 2, 5, 1] w5 (by simp) HV5.out).mono ?_
  rintro e w6 ⟨hout, hx6⟩
  rcases hout with ⟨h, _⟩ | ⟨lv, rv, vs, ls, r, hf, rfl, hol, hro, hre⟩
  · rw [wake_frames] at h; cases h
  rw [wake_frames] at hf
  obtain ⟨rfl, rfl⟩ : [[7, 2]] = ls ∧ [5, 1] = r := by simpa using hf
  obtain ⟨t, rfl⟩ : ∃ t, vs = [t] := by
    have := hro.len
    match vs, this with
    | [t], _ => exact ⟨t, rfl⟩
  have HT := Lib.hid (hro.row 0 t [7, 2] rfl rfl).slice
  have hll := fun W => bb_len hol.slice W
  obtain ⟨q, hadr0, hld⟩ := bb_at hol.slice 0 t rfl
  have hadr : ∀ W, (Instr.indexAt 22 lv (.int .i64 0)).run Try.prog W = .ok (.pointer (some q)) W := hadr0
  have HLD := Lib.hid hld
  have HR := Lib.hid hre.slice
  have HF6 := Lib.hid (HV35.out.below hx6)
  have HB6 := Lib.hid (HB5.out.below hx6)
  have HX6 := Lib.hid (Agg.belowThen HX5.out (Nat.le_refl _) hx6)
  clear hf hol hro hre hld hadr0 hx6
  go_wp2_with (first | (refine wpList_slice3w rfl _ _ _ rfl 2 7 2 rfl rfl rfl ?_; intro x7 w7 hx7s hx7; have HX7S := Lib.hid hx7s; have HX7 := Lib.hid hx7; clear hx7s hx7))
  have hx7 := HX7.out
  refine (sameBytes_any v3 x7 [2, 7, 2] [2, 7, 2] (by simp) (by simp) w7 (HF6.out.below hx7) HX7S.out).mono ?_
  rintro e w8 ⟨rfl, hx8⟩
  have h68 := Agg.belowThen hx7 (Nat.le_refl _) hx8
  have HLD8 := Lib.hid (HLD.out.below h68)
  have HT8 := Lib.hid (HT.out.below h68)
  have HB8 := Lib.hid (HB6.out.below h68)
  have HR8 := Lib.hid (HR.out.below h68)
  have HX8 := Lib.hid (Agg.belowThen HX6.out (Nat.le_refl _) h68)
  have hd1 : decide ([2, 7, 2] = [(2 : UInt8), 7, 2]) = true := by decide
  rw [hd1]
  clear hx8 h68 hx7
  go_wp2_with (first | (with_reducible refine Agg.wpList_loadL HLD8.out rfl _ rfl rfl ?_))
  refine (sameBytes_any t.1 s1.1 [7, 2] [7, 2] (by simp) (by simp) w8 HT8.out HB8.out).mono ?_
  rintro e w9 ⟨rfl, hx9⟩
  have HR9 := Lib.hid (HR8.out.below hx9)
  have HX9 := Lib.hid (Agg.belowThen HX8.out (Nat.le_refl _) hx9)
  have hd2 : decide ([7, 2] = [(7 : UInt8), 2]) = true := by decide
  rw [hd2]
  clear hx9
  go_wp2_with (first | (refine Agg.wpList_slice2O (E := EB) rfl _ _ rfl 5 1 rfl rfl ?_; intro x10 w10 hx10s _ hx10; have HX10S := Lib.hid hx10s; have HX10 := Lib.hid hx10; clear hx10s hx10))
  have hx10 := HX10.out
  refine (sameBytes_any rv x10 [5, 1] [5, 1] (by simp) (by simp) w10 (HR9.out.below hx10) HX10S.out).mono ?_
  rintro e w11 ⟨rfl, hx11⟩
  have hd3 : decide ([5, 1] = [(5 : UInt8), 1]) = true := by decide
  rw [hd3]
  have HX11 := Lib.hid (Agg.belowThen HX9.out (Nat.le_refl _) (Agg.belowThen hx10 (Nat.le_refl _) hx11))
  clear hx11 hx10
  go_wp2_with fail
  go_ret
  exact ⟨rfl, HX11.out⟩
end Go.Proofs.Ytpnolgliklmnmaa
