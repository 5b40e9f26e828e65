/- spenceref28.Frames. -/
import Derived.Test.YtpnolgliklmnmaaFramesW
import Derived.Test.YtpnolgliklmnmaaRefBeg
namespace Go.Proofs.Ytpnolgliklmnmaa
open Go.RowKit Pl Go.Agg
/-- rows that lie in a clone -/
structure RowsRest (base : Nat) (w : World) (vs : List SV) (ls : List (List UInt8)) : Prop where
  len : vs.length = ls.length
  row : ∀ (k : Nat) (s : SV) (l : List UInt8), vs[k]? = some s → ls[k]? = some l → Rest base w s.1 l
section
variable {base : Nat} {w w' : World} {vs : List SV} {ls : List (List UInt8)} {v : Value} {r : List UInt8}
theorem RowsRest.pushed {B : Nat} {u : Value} (h : RowsRest base w vs ls) (hp : Pushed EBB B w w' u) : RowsRest base w' vs ls := ⟨h.len, fun k s l h1 h2 => (h.row k s l h1 h2).pushed hp⟩
theorem RowsRest.rows (h : RowsRest base w vs ls) : RowsIn w vs ls := ⟨h.len, fun k s l h1 h2 => (h.row k s l h1 h2).slice⟩
theorem RowsRest.push {s : SV} {l : List UInt8} (h : RowsRest base w vs ls) (hs : Rest base w s.1 l) : RowsRest base w (vs ++ [s]) (ls ++ [l]) := by
  refine ⟨by simp [h.len], fun k t m h1 h2 => ?_⟩
  have hl := h.len
  by_cases hk : k < vs.length
  · rw [List.getElem?_append_left hk] at h1
    rw [List.getElem?_append_left (by omega)] at h2
    exact h.row k t m h1 h2
  · rw [List.getElem?_append_right (by omega)] at h1 h2
    by_cases hk0 : k - vs.length = 0
    · rw [hk0] at h1
      rw [show k - ls.length = 0 by omega] at h2
      obtain rfl : s = t := by simpa using h1
      obtain rfl : l = m := by simpa using h2
      exact hs
    · rw [List.getElem?_eq_none (by simp; omega)] at h1; cases h1
theorem Rest.sub {g off cap : Nat} (h : Rest base w (.slice (some ⟨g, off, none⟩) r.length cap) r) (k n : Nat) (hk : k + n ≤ r.length) : Rest base w (.slice (some ⟨g, off + k, none⟩) n n) ((r.drop k).take n) := by
  have hd := h.drop k (by omega)
  rcases hd with ⟨h, h0⟩ | ⟨g', off', cap', cs, h, hle, hg, hb, hsz, hc⟩
  · cases h
  · simp only [Value.slice.injEq, Option.some.injEq, Addr.mk.injEq] at h
    obtain ⟨⟨rfl, rfl, _⟩, _, rfl⟩ := h
    have hlen : ((r.drop k).take n).length = n := by simp; omega
    refine .inr ⟨g, off + k, n, cs, by rw [hlen], by rw [hlen]; exact Nat.le_refl _, hg, hb, by simp only [List.length_drop] at hle; omega, fun j u hj => hc j u ?_⟩
    have e : EB.flat (r.drop k) = EB.flat ((r.drop k).take n) ++ EB.flat ((r.drop k).drop n) := by rw [← Elem.flat_append, List.take_append_drop]
    rw [e, List.getElem?_append_left (List.getElem?_eq_some_iff.1 hj).1]
    exact hj
end
/-- what the document's Frames answers -/
def RefOut (w : World) (e : Ending) (b : List UInt8) : Prop :=
  (frames b = none ∧ e = .returned (.tuple #[.slice none 0 0, .slice none 0 0, .int .i64 4])) ∨
  ∃ lv rv vs ls r, frames b = some (ls, r) ∧ e = .returned (.tuple #[lv, rv, .int .i64 0]) ∧ BBAt w lv vs ∧ RowsIn w vs ls ∧ BytesAt w rv r
set_option maxRecDepth 100000 in
set_option maxHeartbeats 2000000 in
theorem refFrames_any (x : Value) (b : List UInt8) (w : World) (hb : b.length ≤ 16777216) (hx : BytesAt w x b) :
    Calls Try.prog 14 #[x] w fun e w' => RefOut w' e b ∧ Below w.heap.size w w' := by
  have HX := Lib.hid hx
  have h63 : ([] : List UInt8).length + b.length ≤ 1099511627776 / 8 := by simp; omega
  clear hx
  go_enter Try.func14, Try.ntmps14
  go_wp2_with (first | (refine Agg.wpList_slice0 (base := w.heap.size) EB rfl rfl (Nat.le_refl _) ?_; intro v0 w0 ho0 hx0 _; have HO0 := Lib.hid ho0; have HX0 := Lib.hid (SliceOf.below HX.out hx0); have hsz0 := hx0.size; clear ho0) | (refine Agg.wpList_appendO (E := EB) (base := w.heap.size) rfl _ _ rfl x rfl rfl b HO0.out HX0.out h63 (by decide) hsz0 ?_; intro v1 w1 ho1 hp1 _; have HR1 := Lib.hid (Rest.of_own ho1); have HX1 := Lib.hid (hx0.trans (hp1.below w.heap.size (Nat.le_refl _) hsz0)); clear ho1 hp1))
  clear h63
  go_loopw [5, 6] (fun lv rv wr => ∃ vs ls r, Own EBB w.heap.size wr lv vs ∧ RowsRest w.heap.size wr vs ls ∧ Rest w.heap.size wr rv r ∧ frames b = (frames r).map (fun p => (ls ++ p.1, p.2)) ∧ r.length ≤ b.length ∧ ls.length + r.length ≤ b.length ∧ Below w.heap.size w wr) (fun _ rv _ => lenOf rv)
  case atStart => exact ⟨[], [], b, Own.nil _ _ _, ⟨rfl, fun k s l h => by simp at h⟩, by simpa using HR1.out, by cases frames b <;> simp, by omega, by simp, HX1.out⟩
  case round =>
    obtain ⟨w2, rfl⟩ : ∃ w2 : World, w2 = wr := ⟨_, rfl⟩
    obtain ⟨vs, ls, r, ho, hro, hre, hf, hrl, hll, hw⟩ := hrel
    have HO := Lib.hid ho
    have HRO := Lib.hid hro
    have HRE := Lib.hid hre
    have HF := Lib.hid hf
    have HW := Lib.hid hw
    have hlr := fun W => bytes_len hre.slice W
    have hbt := beg_three r
    have hbm := beg_most r
    have hbl := beg_le r
    have hsz := hw.size
    have hvl := hro.len
    have h63 : vs.length + 1 ≤ 1099511627776 / 8 := by omega
    clear ho hro hre hf hw
    go_wp2_with fail
    refine (refBegin_any _ r w2 (by omega) HRE.out.slice).mono ?_
    rintro e w3 ⟨rfl, rfl⟩
    obtain ⟨many, hmany⟩ : ∃ m, (beg r).1 = m := ⟨_, rfl⟩
    obtain ⟨n, hn⟩ : ∃ m, (beg r).2 = m := ⟨_, rfl⟩
    rw [hmany] at hbt hbl
    rw [hn] at hbm
    have HMY := Lib.hid hmany
    have HNN := Lib.hid hn
    rw [hmany, hn]
    clear hmany hn
    by_cases hneg : many < 0
    · have hf : frames b = none := by rw [HF.out, frames_wrong (by rw [HMY.out]; exact hneg)]; rfl
      have HF2 := Lib.hid hf
      clear hf
      go_wp2_with fail
      go_ret3
      exact ⟨.inl ⟨HF2.out, rfl⟩, HW.out⟩
    · by_cases hend : many = 0 ∨ r.length < many.toNat + n
      · have hf : frames b = some (ls, r) := by rw [HF.out, frames_end (by rw [HMY.out]; exact hneg) (by rw [HMY.out, HNN.out]; exact hend)]; simp
        have HF2 := Lib.hid hf
        clear hf
        by_cases h0 : many = 0
        · have hq : (many == 0) = true := by simp [h0]
          clear hend
          have H0 := Lib.hid h0
          clear h0
          go_wp2_with fail
          go_ret3
          exact ⟨.inr ⟨_, _, vs, ls, r, HF2.out, rfl, HO.out.slice, HRO.out.rows, HRE.out.slice⟩, HW.out⟩
        · have hq : (many == 0) = false := by simp [h0]
          have hI : (r.length : Int) - many < (n : Int) := by omega
          clear hend h0
          go_wp2_with fail
          go_ret3
          exact ⟨.inr ⟨_, _, vs, ls, r, HF2.out, rfl, HO.out.slice, HRO.out.rows, HRE.out.slice⟩, HW.out⟩
      · have h0 : ¬ many = 0 := fun h => hend (.inl h)
        have hle : many.toNat + n ≤ r.length := by omega
        have hq : (many == 0) = false := by simp [h0]
        have hI : ¬ (r.length : Int) - many < (n : Int) := by omega
        obtain ⟨k, rfl⟩ : ∃ k : Nat, many = (k : Int) := ⟨many.toNat, by omega⟩
        have hre := HRE.out
        rcases hre with ⟨_, hr0⟩ | ⟨g, off, cap, cs, rfl, hcap, hgb, hblk, _, hcs⟩
        · subst hr0; simp at hle; omega
        · clear hend
          have hkr : k ≤ r.length := by omega
          have hk1 : 1 ≤ k := by omega
          have hknr : k + n ≤ r.length := by omega
          have hknc : k + n ≤ cap := by omega
          have hfr : frames r = (frames (r.drop (k + n))).map fun x => ((r.drop k).take n :: x.1, x.2) := by
            have h1 := frames_step (b := r) (by rw [HMY.out]; omega) (by rw [HMY.out, HNN.out]; omega)
            rw [HMY.out, HNN.out, Int.toNat_natCast] at h1
            exact h1
          have hfb : frames b = (frames (r.drop (k + n))).map (fun p => ((ls ++ [(r.drop k).take n]) ++ p.1, p.2)) := by
            rw [HF.out, hfr]
            cases frames (r.drop (k + n)) <;> simp
          have HFB := Lib.hid hfb
          have HRD := Lib.hid (HRE.out.drop (k + n) hknr)
          have HSUB := Lib.hid (HRE.out.sub k n hknr)
          clear hfr hfb hcs hblk
          by_cases hn0 : n = 0
          · subst hn0
            have HSUB := Lib.hid (show Rest w.heap.size w3 (.slice (some ⟨g, off, none⟩) 0 0) ((r.drop k).take 0) from HRE.out.empty (by simp))
            by_cases hck : cap = k
            · have hrk : r.length = k := by omega
              have HRD := Lib.hid (show Rest w.heap.size w3 (.slice (some ⟨g, off, none⟩) 0 0) (r.drop (k + 0)) from HRE.out.empty (List.drop_eq_nil_of_le (by omega)))
              go_wp2_with (first | (refine Agg.wpList_push (E := EBB) (base := w.heap.size) rfl rfl 41 rfl _ rfl _ rfl ⟨.slice (some ⟨g, off, none⟩) 0 0, _, _, _, rfl⟩ rfl (fun _ => rfl) (by simp) HO.out h63 (by decide) hsz ?_; intro u5 v5 w5 ho5 hp5; have HO5 := Lib.hid ho5; have HRO5 := Lib.hid (RowsRest.pushed (RowsRest.push HRO.out (s := ⟨.slice (some ⟨g, off, none⟩) 0 0, _, _, _, rfl⟩) HSUB.out) hp5); have HRD5 := Lib.hid (HRD.out.pushed hp5); have HW5 := Lib.hid (HW.out.trans (hp5.below w.heap.size (Nat.le_refl _) hsz)); clear ho5 hp5))
              go_roundw
              case rel => exact ⟨vs ++ [⟨.slice (some ⟨g, off, none⟩) 0 0, _, _, _, rfl⟩], ls ++ [(r.drop k).take 0], r.drop (k + 0), HO5.out, HRO5.out, HRD5.out, HFB.out, by simp; omega, by simp; omega, HW5.out⟩
              case measure => simp [lenOf]; omega

            · have HRD := Lib.hid (show Rest w.heap.size w3 (.slice (some ⟨g, off + k, none⟩) (r.length - k) (cap - k)) (r.drop (k + 0)) from HRD.out)
              go_wp2_with (first | (refine Agg.wpList_push (E := EBB) (base := w.heap.size) rfl rfl 41 rfl _ rfl _ rfl ⟨.slice (some ⟨g, off, none⟩) 0 0, _, _, _, rfl⟩ rfl (fun _ => rfl) (by simp) HO.out h63 (by decide) hsz ?_; intro u5 v5 w5 ho5 hp5; have HO5 := Lib.hid ho5; have HRO5 := Lib.hid (RowsRest.pushed (RowsRest.push HRO.out (s := ⟨.slice (some ⟨g, off, none⟩) 0 0, _, _, _, rfl⟩) HSUB.out) hp5); have HRD5 := Lib.hid (HRD.out.pushed hp5); have HW5 := Lib.hid (HW.out.trans (hp5.below w.heap.size (Nat.le_refl _) hsz)); clear ho5 hp5))
              go_roundw
              case rel => exact ⟨vs ++ [⟨.slice (some ⟨g, off, none⟩) 0 0, _, _, _, rfl⟩], ls ++ [(r.drop k).take 0], r.drop (k + 0), HO5.out, HRO5.out, HRD5.out, HFB.out, by simp; omega, by simp; omega, HW5.out⟩
              case measure => simp [lenOf]; omega

          · have HSUB := Lib.hid (show Rest w.heap.size w3 (.slice (some ⟨g, off + k, none⟩) (k + n - k) (k + n - k)) ((r.drop k).take n) by rw [Nat.add_sub_cancel_left]; exact HSUB.out)
            by_cases hck : cap = k + n
            · have hrk : r.length = k + n := by omega
              have HRD := Lib.hid (show Rest w.heap.size w3 (.slice (some ⟨g, off, none⟩) 0 0) (r.drop (k + n)) from HRE.out.empty (List.drop_eq_nil_of_le (by omega)))
              go_wp2_with (first | (refine Agg.wpList_push (E := EBB) (base := w.heap.size) rfl rfl 41 rfl _ rfl _ rfl ⟨.slice (some ⟨g, off + k, none⟩) (k + n - k) (k + n - k), _, _, _, rfl⟩ rfl (fun _ => rfl) (by simp) HO.out h63 (by decide) hsz ?_; intro u5 v5 w5 ho5 hp5; have HO5 := Lib.hid ho5; have HRO5 := Lib.hid (RowsRest.pushed (RowsRest.push HRO.out (s := ⟨.slice (some ⟨g, off + k, none⟩) (k + n - k) (k + n - k), _, _, _, rfl⟩) HSUB.out) hp5); have HRD5 := Lib.hid (HRD.out.pushed hp5); have HW5 := Lib.hid (HW.out.trans (hp5.below w.heap.size (Nat.le_refl _) hsz)); clear ho5 hp5))
              go_roundw
              case rel => exact ⟨vs ++ [⟨.slice (some ⟨g, off + k, none⟩) (k + n - k) (k + n - k), _, _, _, rfl⟩], ls ++ [(r.drop k).take n], r.drop (k + n), HO5.out, HRO5.out, by rw [Nat.sub_self]; exact HRD5.out, HFB.out, by simp; omega, by simp; omega, HW5.out⟩
              case measure => simp [lenOf]; omega

            · skip
              go_wp2_with (first | (refine Agg.wpList_push (E := EBB) (base := w.heap.size) rfl rfl 41 rfl _ rfl _ rfl ⟨.slice (some ⟨g, off + k, none⟩) (k + n - k) (k + n - k), _, _, _, rfl⟩ rfl (fun _ => rfl) (by simp) HO.out h63 (by decide) hsz ?_; intro u5 v5 w5 ho5 hp5; have HO5 := Lib.hid ho5; have HRO5 := Lib.hid (RowsRest.pushed (RowsRest.push HRO.out (s := ⟨.slice (some ⟨g, off + k, none⟩) (k + n - k) (k + n - k), _, _, _, rfl⟩) HSUB.out) hp5); have HRD5 := Lib.hid (HRD.out.pushed hp5); have HW5 := Lib.hid (HW.out.trans (hp5.below w.heap.size (Nat.le_refl _) hsz)); clear ho5 hp5))
              go_roundw
              case rel => exact ⟨vs ++ [⟨.slice (some ⟨g, off + k, none⟩) (k + n - k) (k + n - k), _, _, _, rfl⟩], ls ++ [(r.drop k).take n], r.drop (k + n), HO5.out, HRO5.out, HRD5.out, HFB.out, by simp; omega, by simp; omega, HW5.out⟩
              case measure => simp [lenOf]; omega

end Go.Proofs.Ytpnolgliklmnmaa
