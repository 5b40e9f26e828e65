/- wire.Frame. -/
import Derived.Test.YtpnolgliklmnmaaMaker2
import Derived.Test.YtpnolgliklmnmaaAgg3
namespace Go.Proofs.Ytpnolgliklmnmaa
open Go.RowKit Pl Go.Agg
/-- a slice of slices of bytes, and what lies in each -/
structure RowsIn (w : World) (vs : List SV) (ls : List (List UInt8)) : Prop where
  len : vs.length = ls.length
  row : ∀ (k : Nat) (s : SV) (l : List UInt8), vs[k]? = some s → ls[k]? = some l → BytesAt w s.1 l
theorem RowsIn.below {w w' : World} {vs : List SV} {ls : List (List UInt8)} (h : RowsIn w vs ls) (hb : Below w.heap.size w w') : RowsIn w' vs ls := ⟨h.len, fun k s l h1 h2 => (h.row k s l h1 h2).below hb⟩
theorem framed_take {ls : List (List UInt8)} {k : Nat} {l : List UInt8} (h : ls[k]? = some l) : framed (ls.take k) ++ (encN l.length ++ l) = framed (ls.take (k + 1)) := by
  rw [List.take_add_one, h]; simp [framed]
theorem framed_le (ls : List (List UInt8)) (k : Nat) : (framed (ls.take k)).length ≤ (framed ls).length := by
  have : framed ls = framed (ls.take k) ++ framed (ls.drop k) := by
    unfold framed; rw [← List.flatMap_append, List.take_append_drop]
  rw [this, List.length_append]; omega
set_option maxRecDepth 100000 in
set_option maxHeartbeats 1000000 in
theorem frame_any (x : Value) (vs : List SV) (ls : List (List UInt8)) (w : World) (hx : BBAt w x vs) (hr : RowsIn w vs ls) (hall : ∀ l ∈ ls, l.length ≤ 65536) (hf : (framed ls).length ≤ 2097152) (hll : ls.length ≤ 1048576) :
    Calls Try.prog 11 #[x] w fun e w' => ∃ v', e = .returned (.tuple #[v', .int .i64 0]) ∧ Own EB w.heap.size w' v' (framed ls) ∧ Below w.heap.size w w' := by
  have hlx := fun W => bb_len hx W
  have HX := Lib.hid hx
  have HR := Lib.hid hr
  have hvl := hr.len
  have HBLD := Lib.hid (fun W => (by kernel_rfl : (Instr.build 74 #[]).run Try.prog W = .ok (.agg (mkC (.slice none 0 0))) W))
  clear hx hr
  rw [hvl] at hlx
  go_enter Try.func11, Try.ntmps11
  go_wp2_with fail
  go_loopw [2, 10] (fun out i wr => ∃ k : Nat, k ≤ ls.length ∧ i = .int .i64 (k : Int) ∧ Own EB w.heap.size wr out (framed (ls.take k)) ∧ Below w.heap.size w wr) (fun _ i _ => ls.length - (intOf i).toNat)
  case atStart => exact ⟨0, by omega, rfl, by simpa [framed] using Own.nil EB w.heap.size w, Below.refl _ _⟩
  case round =>
    obtain ⟨w1, rfl⟩ : ∃ w1 : World, w1 = wr := ⟨_, rfl⟩
    obtain ⟨k, hk, rfl, ho, hw⟩ := hrel
    have HO := Lib.hid ho
    have HW := Lib.hid hw
    clear ho
    by_cases hlt : k < ls.length
    · obtain ⟨l, hlk⟩ : ∃ l, ls[k]? = some l := ⟨_, List.getElem?_eq_getElem hlt⟩
      obtain ⟨s, hsk⟩ : ∃ s, vs[k]? = some s := ⟨_, List.getElem?_eq_getElem (by omega)⟩
      have hl := hall l (List.mem_of_getElem? hlk)
      have HS := Lib.hid ((HR.out.row k s l hsk hlk).below hw)
      have hls := fun W => bytes_len HS.out W
      obtain ⟨q, hadr, hld⟩ := bb_at (HX.out.below hw) k s hsk
      have HL := Lib.hid hld
      have HFT := Lib.hid (framed_take hlk)
      have hfl := framed_le ls (k + 1)
      rw [← HFT.out] at hfl
      have hI : ¬ (65536 : Int) < (l.length : Int) := by omega
      clear hlk hsk hld hw
      go_wp2_with (first | (with_reducible refine Agg.wpList_loadL HL.out rfl _ rfl rfl ?_) | (with_reducible refine Agg.wpList_build0 74 rfl rfl (.agg (mkC (.slice none 0 0))) HBLD.out ?_) | (with_reducible refine Agg.wpList_box rfl 74 _ rfl (mkC (.slice none 0 0)) rfl ?_; intro g w2 hb2 hx2 hg2; have hlt2 := hb2.lt; have hsz2 := hx2.size; have HB2 := Lib.hid hb2; have HX2 := Lib.hid hx2; clear hb2 hx2) | (refine Agg.wpList_slice1 (E := EBB) (base := w2.heap.size) rfl _ rfl s rfl (Nat.le_refl _) ?_; intro xs w3 hxs hx3; have HXS := Lib.hid hxs; have HX3 := Lib.hid hx3; clear hxs hx3))
      have h13 := Agg.belowThen HX2.out (Nat.le_refl _) HX3.out
      have hm3 : MkV g w3 (.slice none 0 0) [] := ⟨HB2.out.below HX3.out, Own.nil _ _ _⟩
      have hno : ∀ k, (Value.slice none 0 0).ownBlock ≠ some k := fun k h => by simp [Value.ownBlock] at h
      refine (text_any g (.slice none 0 0) xs s l [] w3 (by simp) (by omega) (Off.behind (w0 := w2) HXS.out.slice (fun k hk => (HXS.out.block k hk).1) hlt2 (fun k hk => absurd hk (hno k))) (Off.before (w0 := w1) HS.out h13 hg2 (fun k hk => absurd hk (hno k))) hm3).mono ?_
      rintro e w4 ⟨rfl, v4, hm4, hs4⟩
      have h4 := hm3.stepBelow hs4
      have h14 : Below w1.heap.size w1 w4 := h13.trans (h4.mono hg2)
      have HM4 := Lib.hid hm4
      have HW4 := Lib.hid (Agg.belowThen HW.out (Nat.le_refl _) h14)
      have HO4 := Lib.hid (HO.out.below h14)
      clear hm4 hm3 hno h4 hs4 h13 h14
      go_wp2_with fail
      refine (done_any g v4 _ w4 (by simp only [List.nil_append, List.length_append] at hfl ⊢; omega) HM4.out).mono ?_
      rintro e w5 ⟨v5, rfl, ho5, hx5⟩
      have HO5 := Lib.hid (HO4.out.below hx5)
      have hw5 := Agg.belowThen HW4.out (Nat.le_refl _) hx5
      have HS5 := Lib.hid ho5.slice
      have HW5 := Lib.hid hw5
      have hsz5 := hw5.size
      have h63 : (framed (ls.take k)).length + ([] ++ (encN l.length ++ l)).length ≤ 1099511627776 / 8 := by simp only [List.nil_append, List.length_append] at hfl ⊢; omega
      clear ho5 hx5 hw5
      go_wp2_with (first | (refine Agg.wpList_appendO (E := EB) (base := w.heap.size) rfl _ _ rfl v5 rfl rfl _ HO5.out HS5.out h63 (by decide) hsz5 ?_; intro v6 w6 ho6 hp6 _; have HO6 := Lib.hid ho6; have HP6 := Lib.hid (HW5.out.trans (hp6.below w.heap.size (Nat.le_refl _) hsz5)); clear ho6 hp6))
      go_roundw
      case rel => exact ⟨k + 1, by omega, by go_num, by rw [← HFT.out]; exact HO6.out, HP6.out⟩
      case measure => simp [intOf]; omega
    · obtain rfl : k = ls.length := by omega
      have hot := HO.out
      rw [List.take_length] at hot
      have HOT := Lib.hid hot
      clear hot
      go_wp2_with fail
      go_ret2
      exact ⟨_, rfl, HOT.out, HW.out⟩
end Go.Proofs.Ytpnolgliklmnmaa
