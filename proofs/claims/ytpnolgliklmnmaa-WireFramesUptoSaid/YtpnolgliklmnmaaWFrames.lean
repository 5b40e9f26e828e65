/- spencelaw28.WireFrames. -/
import Derived.Test.YtpnolgliklmnmaaWake3
import Derived.Test.YtpnolgliklmnmaaRefW
import Derived.Test.YtpnolgliklmnmaaRefFr
import Derived.Test.YtpnolgliklmnmaaLentR
import Derived.Test.YtpnolgliklmnmaaApartB
import Derived.Test.YtpnolgliklmnmaaCuts0
namespace Go.Agg
open Go.RowKit
section
variable {P : Program} {α : Type} {E : Elem P α}
/-- the blocks of two rows of slices are apart -/
def Cross (vs us : List SV) : Prop := ∀ b, SS vs b → ¬ SS us b
theorem Dist.append {vs us : List SV} (h : Dist vs) (k : Dist us) (hc : Cross vs us) : Dist (vs ++ us) := by
  have one : ∀ (i : Nat) (u : SV), (vs ++ us)[i]? = some u → (i < vs.length ∧ vs[i]? = some u) ∨ (vs.length ≤ i ∧ us[i - vs.length]? = some u) := fun i u h => by
    by_cases hi : i < vs.length
    · rw [List.getElem?_append_left hi] at h; exact .inl ⟨hi, h⟩
    · rw [List.getElem?_append_right (by omega)] at h; exact .inr ⟨by omega, h⟩
  intro i j u v hi hj hij b hu hv
  rcases one i u hi with ⟨h1, h2⟩ | ⟨h1, h2⟩ <;> rcases one j v hj with ⟨h3, h4⟩ | ⟨h3, h4⟩
  · exact h i j u v h2 h4 hij b hu hv
  · exact hc b ⟨_, u, h2, hu⟩ ⟨_, v, h4, hv⟩
  · exact hc b ⟨_, v, h4, hv⟩ ⟨_, u, h2, hu⟩
  · exact k _ _ u v h2 h4 (by omega) b hu hv
theorem ss_append {vs us : List SV} {b : Nat} (h : SS (vs ++ us) b) : SS vs b ∨ SS us b := by
  obtain ⟨i, u, hi, hb⟩ := h
  by_cases hl : i < vs.length
  · rw [List.getElem?_append_left hl] at hi; exact .inl ⟨i, u, hi, hb⟩
  · rw [List.getElem?_append_right (by omega)] at hi; exact .inr ⟨_, u, hi, hb⟩
theorem dist_one (v : SV) : Dist [v] := by
  intro i j u w hi hj hij
  match i, j, hi, hj with
  | 0, 0, _, _ => exact absurd rfl hij
  | 0, n + 1, _, hj => simp at hj
  | n + 1, _, hi, _ => simp at hi
theorem ss_one {v : SV} {b : Nat} (h : SS [v] b) : v.1.ownBlock = some b := by
  obtain ⟨i, u, hi, hb⟩ := h
  match i, hi with
  | 0, hi =>
    obtain rfl : v = u := by simpa using hi
    exact hb
/-- what is in rows, as a list -/
structure RoomsL (E : Elem P α) (w : World) (vs : List SV) (fs : List (List α)) : Prop where
  len : vs.length = fs.length
  row : ∀ (k : Nat) (v : SV) (l : List α), vs[k]? = some v → fs[k]? = some l → RoomN E w v.1 l
theorem RoomsL.of {w : World} {vs : List SV} {fs : List (List α)} (h : RoomsL E w vs fs) : RoomsOf E w vs fun k => (fs[k]?).getD [] := fun k v hk => by
  obtain ⟨l, hl⟩ : ∃ l, fs[k]? = some l := ⟨_, List.getElem?_eq_getElem (by rw [← h.len]; exact (List.getElem?_eq_some_iff.1 hk).1)⟩
  show RoomN E w v.1 ((fs[k]?).getD [])
  rw [hl]
  exact h.row k v l hk hl
theorem RoomsL.append {w : World} {vs us : List SV} {fs gs : List (List α)} (h : RoomsL E w vs fs) (k : RoomsL E w us gs) : RoomsL E w (vs ++ us) (fs ++ gs) := by
  have h1 := h.len
  refine ⟨by simp [h.len, k.len], fun i s l hs hl => ?_⟩
  by_cases hi : i < vs.length
  · rw [List.getElem?_append_left hi] at hs
    rw [List.getElem?_append_left (by omega)] at hl
    exact h.row i s l hs hl
  · rw [List.getElem?_append_right (by omega)] at hs hl
    rw [show i - fs.length = i - vs.length by omega] at hl
    exact k.row _ s l hs hl
theorem RoomsL.one {w : World} {v : SV} {l : List α} (h : RoomN E w v.1 l) : RoomsL E w [v] [l] := ⟨rfl, fun k u m hk hm => by
  match k, hk, hm with
  | 0, hk, hm =>
    obtain rfl : v = u := by simpa using hk
    obtain rfl : l = m := by simpa using hm
    exact h⟩
end
end Go.Agg
namespace Go.Proofs.Ytpnolgliklmnmaa
open Go.RowKit Pl Go.Agg
theorem RowsOwn.rooms {base : Nat} {w : World} {vs : List SV} {ls : List (List UInt8)} (h : RowsOwn base w vs ls) : RoomsL EB w vs ls := ⟨h.len, fun k s l h1 h2 => RoomN.of_own (h.row k s l h1 h2)⟩
section
variable {ops : Array Oper} {rest : List Oper} {o : Oper} {a : Act} {w : World} {Q : Exit → Act → World → Prop}
/-- '[][]byte{a, b, c, d}' -/
theorem wpList_rows4 (hg : Region.wanted o (yielded ops a.tmps) = true) (x1 x2 x3 x4 : Operand) (ho : o.op = .buildSlice 22 4 #[(0, x1), (1, x2), (2, x3), (3, x4)]) (s1 s2 s3 s4 : SV) (h1 : a.eval x1 = s1.1) (h2 : a.eval x2 = s2.1) (h3 : a.eval x3 = s3.1) (h4 : a.eval x4 = s4.1)
    (h : ∀ v' w', Own EBB w.heap.size w' v' [s1, s2, s3, s4] → Below w.heap.size w w' → wpList Try.prog ops Q rest (a.put o.dst v') w') : wpList Try.prog ops Q (o :: rest) a w := by
  obtain ⟨v1, p1, n1, c1, rfl⟩ := s1
  obtain ⟨v2, p2, n2, c2, rfl⟩ := s2
  obtain ⟨v3, p3, n3, c3, rfl⟩ := s3
  obtain ⟨v4, p4, n4, c4, rfl⟩ := s4
  have hb : (Instr.buildSlice 22 4 #[(0, .slice p1 n1 c1), (1, .slice p2 n2 c2), (2, .slice p3 n3 c3), (3, .slice p4 n4 c4)]).run Try.prog w = .ok (.slice (some ⟨w.heap.size, 0, none⟩) 4 4) (w.alloc (.cells #[.slice p1 n1 c1, .slice p2 n2 c2, .slice p3 n3 c3, .slice p4 n4 c4] 23)) := by kernel_rfl
  refine wpList_valw hg (v := .slice (some ⟨w.heap.size, 0, none⟩) 4 4) (w' := w.alloc (.cells #[.slice p1 n1 c1, .slice p2 n2 c2, .slice p3 n3 c3, .slice p4 n4 c4] 23)) (by simp [execOp, ho, h1, h2, h3, h4, hb]) (h _ _ ?_ ((Below.refl _ _).alloc (Nat.le_refl _) _))
  exact ⟨rfl, .inr ⟨w.heap.size, 4, #[.slice p1 n1 c1, .slice p2 n2 c2, .slice p3 n3 c3, .slice p4 n4 c4], rfl, Nat.le_refl _, heap_alloc_new w _, Nat.le_refl _, by decide, rfl, rfl⟩⟩
end
/-- what bytes are, as frames -/
def fCode (b : List UInt8) : Nat := match frames b with | none => 4 | some _ => 0
def fRows (b : List UInt8) : List (List UInt8) := match frames b with | none => [] | some x => x.1
def fRest (b : List UInt8) : List UInt8 := match frames b with | none => [] | some x => x.2
theorem fRows_le {b : List UInt8} : bytesSz (fRows b) + (fRest b).length ≤ b.length := by
  unfold fRows fRest
  cases h : frames b with
  | none => simp [bytesSz]
  | some x => exact frames_rest (Nat.le_refl _) h
theorem sliceOf_lent {base : Nat} {w : World} {u : Value} {l : List UInt8} (h : Lent EB (marks 1 12) base w u l) : BytesAt w u l := by
  obtain ⟨g, cap, rfl, _, _, hs⟩ := h
  exact sliceOf_prefix hs
theorem lent_below {base : Nat} {w w' : World} {u : Value} {l : List UInt8} (h : Lent EB (marks 1 12) base w u l) (hb : Below w.heap.size w w') : Lent EB (marks 1 12) base w' u l := by
  obtain ⟨g, cap, rfl, h1, h2, hs⟩ := h
  exact ⟨g, cap, rfl, h1, h2, hs.below hb⟩
theorem Rest.keepT {base : Nat} {w w' : World} {v : Value} {r : List UInt8} (h : Rest base w v r) (hk : ∀ (g : Nat) (cur : Array Value) (fr : Nat × Nat), w.heap[g]? = some (Obj.cells cur 5 fr) → w'.heap[g]? = some (Obj.cells cur 5 fr)) : Rest base w' v r := by
  rcases h with h | ⟨g, off, cap, cs, rfl, hle, hg, hb, hc⟩
  · exact .inl h
  · exact .inr ⟨g, off, cap, cs, rfl, hle, hg, hk g cs _ hb, hc⟩
theorem RowsOwn.keepT {base : Nat} {w w' : World} {vs : List SV} {ls : List (List UInt8)} (h : RowsOwn base w vs ls) (hk : ∀ (g : Nat) (cur : Array Value) (fr : Nat × Nat), w.heap[g]? = some (Obj.cells cur 5 fr) → w'.heap[g]? = some (Obj.cells cur 5 fr)) : RowsOwn base w' vs ls := ⟨h.len, fun k s l h1 h2 => (h.row k s l h1 h2).keepT hk⟩
structure FOut (base : Nat) (w : World) (lv : Value) (rv : SV) (vs : List SV) (b : List UInt8) : Prop where
  own : Own EBB base w lv vs
  rows : RowsOwn base w vs (fRows b)
  rest : Rest base w rv.1 (fRest b)
  dist : Dist vs
  parts : ∃ m, (∀ k, rv.1.ownBlock = some k → k < m) ∧ ∀ k, SS vs k → m ≤ k
theorem FramesOutS.uni {base : Nat} {w : World} {e : Ending} {b : List UInt8} (h : FramesOutS base w e b) : ∃ (lv : Value) (rv : SV) (vs : List SV), e = .returned (.tuple #[lv, rv.1, .int .i64 (fCode b : Int)]) ∧ FOut base w lv rv vs b := by
  rcases h with ⟨h, rfl⟩ | ⟨lv, rv, vs, ls, r, h, rfl, h1, h2, h3, h4, h5⟩
  · refine ⟨.slice none 0 0, ⟨.slice none 0 0, _, _, _, rfl⟩, [], by simp [fCode, h], ⟨Own.nil _ _ _, ?_, ?_, fun i j u v hi => by simp at hi, 0, fun k hk => by simp [Value.ownBlock] at hk, fun k _ => Nat.zero_le _⟩⟩
    · rw [show fRows b = [] by simp [fRows, h]]; exact ⟨rfl, fun k s l h => by simp at h⟩
    · rw [show fRest b = [] by simp [fRest, h]]; exact .inl ⟨rfl, rfl⟩
  · obtain ⟨p, c, hf⟩ := h3.slice.form
    refine ⟨lv, ⟨rv, p, _, c, hf⟩, vs, by simp [fCode, h], ⟨h1, ?_, ?_, h4, h5⟩⟩
    · rw [show fRows b = ls by simp [fRows, h]]; exact h2
    · rw [show fRest b = r by simp [fRest, h]]; exact h3
theorem RefOut.uni {w : World} {e : Ending} {b : List UInt8} (h : RefOut w e b) : ∃ (lv rv : Value) (vs : List SV), e = .returned (.tuple #[lv, rv, .int .i64 (fCode b : Int)]) ∧ BBAt w lv vs ∧ RowsIn w vs (fRows b) ∧ BytesAt w rv (fRest b) := by
  rcases h with ⟨h, rfl⟩ | ⟨lv, rv, vs, ls, r, h, rfl, h1, h2, h3⟩
  · refine ⟨.slice none 0 0, .slice none 0 0, [], by simp [fCode, h], SliceOf.nil _ _ _, ?_, ?_⟩
    · rw [show fRows b = [] by simp [fRows, h]]; exact ⟨rfl, fun k s l h => by simp at h⟩
    · rw [show fRest b = [] by simp [fRest, h]]; exact SliceOf.nil _ _ _
  · refine ⟨lv, rv, vs, by simp [fCode, h], h1, ?_, ?_⟩
    · rw [show fRows b = ls by simp [fRows, h]]; exact h2
    · rw [show fRest b = r by simp [fRest, h]]; exact h3
theorem FOut.below {base : Nat} {w w' : World} {lv : Value} {rv : SV} {vs : List SV} {b : List UInt8} (h : FOut base w lv rv vs b) (hb : Below w.heap.size w w') : FOut base w' lv rv vs b := ⟨h.own.below hb, h.rows.below hb, h.rest.below hb, h.dist, h.parts⟩
theorem own_sv {base : Nat} {w : World} {v : Value} {l : List UInt8} (h : Own EB base w v l) : ∃ s : SV, v = s.1 := by
  obtain ⟨p, c, hf⟩ := h.slice.form
  exact ⟨⟨v, p, _, c, hf⟩, rfl⟩
theorem own_in {base : Nat} {w : World} {v : Value} {l : List UInt8} (h : Own EB base w v l) : ∀ k, v.ownBlock = some k → base ≤ k ∧ k < w.heap.size := fun k hk => by
  obtain ⟨h1, cur, hc⟩ := h.block k hk
  exact ⟨h1, Agg.heap_lt hc⟩
set_option maxRecDepth 100000 in
set_option maxHeartbeats 4000000 in
theorem wframes_any (vl vb : Value) (vs : List SV) (ls : List (List UInt8)) (b : List UInt8) (w : World) (hl : BBAt w vl vs) (hr : RowsIn w vs ls) (hb : BytesAt w vb b)
    (hll : ls.length ≤ 1048576) (hlz : bytesSz ls ≤ 4194304) (hbl : b.length ≤ 1048576) :
    Calls Try.prog 3 #[vl, vb] w fun e w' => e = .returned (.bool true) ∧ Below w.heap.size w w' := by
  have hlb := fun W => bytes_len hb W
  have HL := Lib.hid hl
  have HR := Lib.hid hr
  have HB := Lib.hid hb
  have hgo := bytesGo_le 6000 ls 0
  clear hl hr hb
  go_enter Try.func3, Try.ntmps3
  go_wp2_with fail
  refine (bytesOf_any vl vs ls 6000 (by omega) (by omega) (by omega) w HL.out HR.out).mono ?_
  rintro e w1 ⟨rfl, rfl⟩
  obtain ⟨n, hn⟩ : ∃ n, bytesGo 6000 0 ls = n := ⟨_, rfl⟩
  rw [hn] at hgo ⊢
  by_cases hbig : n ≤ 6000 ∧ b.length ≤ 6000
  · obtain ⟨hn6, hb6⟩ := hbig
    have hI1 : ¬ (6000 : Int) < (n : Int) := by omega
    have hI2 : ¬ (6000 : Int) < (b.length : Int) := by omega
    have hsz := bytesGo_all 6000 ls 0 (by omega)
    have hall : ∀ l ∈ ls, l.length ≤ 65536 := fun l h => by have := bytesSz_mem h; omega
    have hall2 : ∀ l ∈ ls, l.length ≤ 1048576 := fun l h => by have := bytesSz_mem h; omega
    have hfz := framed_sz hall
    have HALL := Lib.hid hall
    have HALL2 := Lib.hid hall2
    clear hn hgo hall hall2
    go_wp2_with fail
    refine (lentRows_any vl vs ls hll HALL2.out _ HL.out HR.out).mono ?_
    rintro e w2 ⟨u1, us, rfl, hx2, hou, hlu⟩
    go_wp2_with fail
    refine (lentBytes_any vb b hbl w2 (HB.out.below hx2)).mono ?_
    rintro e w3 ⟨u2, rfl, hx3, hl2⟩
    have HX3 := Lib.hid (Agg.belowThen hx2 (Nat.le_refl _) hx3)
    have HU := Lib.hid (hou.below hx3).slice
    have HLU := Lib.hid (hlu.below hx3)
    have HL2 := Lib.hid hl2
    have HL3 := Lib.hid (HL.out.below HX3.out)
    have HR3 := Lib.hid (HR.out.below HX3.out)
    have HB3 := Lib.hid (HB.out.below HX3.out)
    clear hx2 hx3 hou hlu hl2
    go_wp2_with fail
    refine (frame_any u1 us ls w3 HU.out HLU.out.rows HALL.out (by omega) hll).mono ?_
    rintro e w4 ⟨a4, rfl, ho4, hx4⟩
    obtain ⟨sa, rfl⟩ := own_sv ho4
    have HO4 := Lib.hid ho4
    have HX4 := Lib.hid hx4
    have s34 := hx4.size
    clear ho4 hx4
    go_wp2_with fail
    refine (refFrame_any vl vs ls w4 (HL3.out.below HX4.out) (HR3.out.below HX4.out) HALL.out (by omega) hll).mono ?_
    rintro e w5 ⟨c5, rfl, ho5, hx5⟩
    have HC5 := Lib.hid ho5.slice
    have HX5 := Lib.hid (Agg.belowThen HX4.out (Nat.le_refl _) hx5)
    have HO45 := Lib.hid (HO4.out.below hx5)
    have s45 := hx5.size
    clear ho5 hx5
    go_wp2_with fail
    refine (frame_any u1 us ls w5 (HU.out.below HX5.out) (HLU.out.below HX5.out).rows HALL.out (by omega) hll).mono ?_
    rintro e w6 ⟨a6, rfl, ho6, hx6⟩
    obtain ⟨sb, rfl⟩ := own_sv ho6
    have HO6 := Lib.hid ho6
    have HX6 := Lib.hid (Agg.belowThen HX5.out (Nat.le_refl _) hx6)
    have HO46 := Lib.hid (HO45.out.below hx6)
    have HC6 := Lib.hid (HC5.out.below hx6)
    have s56 := hx6.size
    clear ho6 hx6
    go_wp2_with fail
    refine (framesS_any u2 b w6 (by omega) ((sliceOf_lent HL2.out).below HX6.out)).mono ?_
    rintro e w7 ⟨hout, hx7⟩
    obtain ⟨lv7, rv7, vs7, rfl, hf7⟩ := hout.uni
    have HF7 := Lib.hid hf7
    have HX7 := Lib.hid (Agg.belowThen HX6.out (Nat.le_refl _) hx7)
    have HO47 := Lib.hid (HO46.out.below hx7)
    have HO67 := Lib.hid (HO6.out.below hx7)
    have HC7 := Lib.hid (HC6.out.below hx7)
    have s67 := hx7.size
    clear hout hf7 hx7
    go_wp2_with fail
    refine (refFrames_any vb b w7 (by omega) (HB3.out.below HX7.out)).mono ?_
    rintro e w8 ⟨hout, hx8⟩
    obtain ⟨lv8, rv8, vs8, rfl, hb8, hri8, hre8⟩ := hout.uni
    have HB8 := Lib.hid hb8
    have HRI8 := Lib.hid hri8
    have HRE8 := Lib.hid hre8
    have HX8 := Lib.hid (Agg.belowThen HX7.out (Nat.le_refl _) hx8)
    have HO48 := Lib.hid (HO47.out.below hx8)
    have HO68 := Lib.hid (HO67.out.below hx8)
    have HC8 := Lib.hid (HC7.out.below hx8)
    have HF78 := Lib.hid (HF7.out.below hx8)
    have s78 := hx8.size
    clear hout hb8 hri8 hre8 hx8
    go_wp2_with fail
    refine (framesS_any u2 b w8 (by omega) ((sliceOf_lent HL2.out).below HX8.out)).mono ?_
    rintro e w9 ⟨hout, hx9⟩
    obtain ⟨lv9, rv9, vs9, rfl, hf9⟩ := hout.uni
    have HF9 := Lib.hid hf9
    have HX9 := Lib.hid (Agg.belowThen HX8.out (Nat.le_refl _) hx9)
    have HO49 := Lib.hid (HO48.out.below hx9)
    have HO69 := Lib.hid (HO68.out.below hx9)
    have HC9 := Lib.hid (HC8.out.below hx9)
    have HF79 := Lib.hid (HF78.out.below hx9)
    have HB9 := Lib.hid (HB8.out.below hx9)
    have HRI9 := Lib.hid (HRI8.out.below hx9)
    have HRE9 := Lib.hid (HRE8.out.below hx9)
    have s89 := hx9.size
    clear hout hf9 hx9
    have hfr := fRows_le (b := b)
    have hfl := bytesSz_len (fRows b)
    have hfm : ∀ l ∈ fRows b, l.length ≤ 1048576 := fun l h => by have := bytesSz_mem h; omega
    have HFM := Lib.hid hfm
    obtain ⟨cd, hcd⟩ : ∃ c, fCode b = c := ⟨_, rfl⟩
    rw [hcd]
    have hcc : ((cd : Int) != (cd : Int)) = false := by simp
    have HFRM := Lib.hid (show (framed ls).length ≤ 1048576 by omega)
    clear hcd hfm
    go_wp2_with fail
    refine (sameBytes_any sa.1 c5 (framed ls) (framed ls) HFRM.out HFRM.out w9 HO49.out.slice HC9.out).mono ?_
    rintro e w10 ⟨rfl, hx10⟩
    rw [show decide (framed ls = framed ls) = true by simp]
    have HF710 := Lib.hid (HF79.out.below hx10)
    have HB10 := Lib.hid (HB9.out.below hx10)
    have HRI10 := Lib.hid (HRI9.out.below hx10)
    have HRE10 := Lib.hid (HRE9.out.below hx10)
    have HX10 := Lib.hid (Agg.belowThen (Below.refl _ _) (Nat.le_refl w9.heap.size) hx10)
    clear hx10
    go_wp2_with fail
    refine (sameRows_any lv7 lv8 vs7 vs8 (fRows b) (fRows b) (by omega) (by omega) HFM.out HFM.out w10 HF710.out.own.slice HB10.out HF710.out.rows.rows HRI10.out).mono ?_
    rintro e w11 ⟨rfl, hx11⟩
    rw [show decide (fRows b = fRows b) = true by simp]
    have HX11 := Lib.hid (Agg.belowThen HX10.out (Nat.le_refl _) hx11)
    clear hx11
    go_wp2_with fail
    refine (sameBytes_any rv7.1 rv8 (fRest b) (fRest b) (by omega) (by omega) w11 (HF79.out.rest.slice.below HX11.out) (HRE9.out.below HX11.out)).mono ?_
    rintro e w12 ⟨rfl, hx12⟩
    rw [show decide (fRest b = fRest b) = true by simp]
    have HX12 := Lib.hid (Agg.belowThen HX11.out (Nat.le_refl _) hx12)
    clear hx12
    have HW12 := Lib.hid (Agg.belowThen HX9.out (Nat.le_refl _) HX12.out)
    have s912 := HX12.out.size
    have HF712 := Lib.hid (HF79.out.below HX12.out)
    have HF912 := Lib.hid (HF9.out.below HX12.out)
    have HO412 := Lib.hid (HO49.out.below HX12.out)
    have HO612 := Lib.hid (HO69.out.below HX12.out)
    have hv7 := HF7.out.rows.len
    have hv9 := HF9.out.rows.len
    have h63a : [sa, sb, rv7, rv9].length + vs7.length ≤ 1099511627776 / 8 := by simp; omega
    have h63b : ([sa, sb, rv7, rv9] ++ vs7).length + vs9.length ≤ 1099511627776 / 8 := by simp; omega
    have h63c : ([sa, sb, rv7, rv9] ++ vs7 ++ vs9).length + 1 ≤ 1099511627776 / 8 := by simp; omega
    have HK9 := Lib.hid (fun k (hk : lv9.ownBlock = some k) => show k < w12.heap.size from by
      obtain ⟨_, cur, hc⟩ := HF9.out.own.block k hk
      exact Nat.lt_of_lt_of_le (Agg.heap_lt hc) s912)
    go_wp2_with (first
      | (refine wpList_rows4 rfl _ _ _ _ rfl sa sb rv7 rv9 rfl rfl rfl rfl ?_; intro v13 w13 ho13 hx13; have HO13 := Lib.hid ho13; have hsz13 := hx13.size; have HX13 := Lib.hid hx13; have HS713 := Lib.hid (HF712.out.own.slice.below hx13); have HS913 := Lib.hid (HF912.out.own.slice.below hx13); have HKT13 := Lib.hid (fun (g : Nat) (cur : Array Value) (fr : Nat × Nat) (h : w12.heap[g]? = some (Obj.cells cur 5 fr)) => (keep' hx13 h : w13.heap[g]? = some (Obj.cells cur 5 fr))); clear ho13 hx13)
      | (refine Agg.wpList_appendS (E := EBB) (base := w12.heap.size) rfl _ _ rfl lv7 rfl rfl vs7 HO13.out HS713.out h63a (by decide) hsz13 ?_; intro v14 w14 ho14 hp14 _; have HO14 := Lib.hid ho14; have hsz14 := Nat.le_trans hsz13 hp14.size; have HX14 := Lib.hid (HX13.out.trans (hp14.below w12.heap.size (Nat.le_refl _) hsz13)); have HS914 := Lib.hid (HS913.out.onlyS hp14.only (fun k hk h => by have h1 := HK9.out k hk; have h2 := (HO13.out.block k h).1; omega)); have HKT14 := Lib.hid (fun (g : Nat) (cur : Array Value) (fr : Nat × Nat) (h : w12.heap[g]? = some (Obj.cells cur 5 fr)) => hp14.blk g _ _ _ (by decide) (HKT13.out g cur fr h)); clear ho14 hp14)
      | (refine Agg.wpList_appendS (E := EBB) (base := w12.heap.size) rfl _ _ rfl lv9 rfl rfl vs9 HO14.out HS914.out h63b (by decide) hsz14 ?_; intro v15 w15 ho15 hp15 _; have HO15 := Lib.hid ho15; have hsz15 := Nat.le_trans hsz14 hp15.size; have HX15 := Lib.hid (HX14.out.trans (hp15.below w12.heap.size (Nat.le_refl _) hsz14)); have HKT15 := Lib.hid (fun (g : Nat) (cur : Array Value) (fr : Nat × Nat) (h : w12.heap[g]? = some (Obj.cells cur 5 fr)) => hp15.blk g _ _ _ (by decide) (HKT14.out g cur fr h)); clear ho15 hp15)
      | (refine Agg.wpList_push (E := EBB) (base := w12.heap.size) rfl rfl 103 rfl _ rfl _ rfl nilSV rfl (fun _ => rfl) (by simp [Act.put]) HO15.out h63c (by decide) hsz15 ?_; intro u16 v16 w16 ho16 hp16; have HO16 := Lib.hid ho16; have HX16 := Lib.hid (HX15.out.trans (hp16.below w12.heap.size (Nat.le_refl _) hsz15)); have HKT16 := Lib.hid (fun (g : Nat) (cur : Array Value) (fr : Nat × Nat) (h : w12.heap[g]? = some (Obj.cells cur 5 fr)) => hp16.blk g _ _ _ (by decide) (HKT15.out g cur fr h)); clear ho16 hp16))
    have ra := own_in HO4.out
    have rb := own_in HO6.out
    have r7 := HF7.out.rest.block
    have q7 := HF7.out.rows.lt
    have r9 := HF9.out.rest.block
    have q9 := HF9.out.rows.lt
    obtain ⟨m7, p7, pr7⟩ := HF7.out.parts
    obtain ⟨m9, p9, pr9⟩ := HF9.out.parts
    have d2 : Dist ([sa] ++ [sb]) := (dist_one sa).append (dist_one sb) fun k h1 h2 => by
      have := ra k (ss_one h1); have := rb k (ss_one h2); omega
    have d3 : Dist ([sa] ++ [sb] ++ [rv7]) := d2.append (dist_one rv7) fun k h1 h2 => by
      have := r7 k (ss_one h2)
      rcases ss_append h1 with h | h
      · have := ra k (ss_one h); omega
      · have := rb k (ss_one h); omega
    have d4 : Dist ([sa] ++ [sb] ++ [rv7] ++ [rv9]) := d3.append (dist_one rv9) fun k h1 h2 => by
      have := r9 k (ss_one h2)
      rcases ss_append h1 with h | h
      · rcases ss_append h with h | h
        · have := ra k (ss_one h); omega
        · have := rb k (ss_one h); omega
      · have := r7 k (ss_one h); omega
    have low4 : ∀ k, SS ([sa] ++ [sb] ++ [rv7] ++ [rv9]) k → w3.heap.size ≤ k ∧ (k < w6.heap.size ∨ (w6.heap.size ≤ k ∧ k < w7.heap.size ∧ k < m7) ∨ (w8.heap.size ≤ k ∧ k < m9)) := fun k h => by
      rcases ss_append h with h | h
      · rcases ss_append h with h | h
        · rcases ss_append h with h | h
          · have := ra k (ss_one h); omega
          · have := rb k (ss_one h); omega
        · have := r7 k (ss_one h); have := p7 k (ss_one h); omega
      · have := r9 k (ss_one h); have := p9 k (ss_one h); omega
    have d5 : Dist ([sa] ++ [sb] ++ [rv7] ++ [rv9] ++ vs7) := d4.append HF7.out.dist fun k h1 h2 => by
      have := low4 k h1; have := q7 k h2; have := pr7 k h2; omega
    have low5 : ∀ k, SS ([sa] ++ [sb] ++ [rv7] ++ [rv9] ++ vs7) k → w3.heap.size ≤ k ∧ (k < w7.heap.size ∨ (w8.heap.size ≤ k ∧ k < m9)) := fun k h => by
      rcases ss_append h with h | h
      · have := low4 k h; omega
      · have := q7 k h; omega
    have d6 : Dist ([sa] ++ [sb] ++ [rv7] ++ [rv9] ++ vs7 ++ vs9) := d5.append HF9.out.dist fun k h1 h2 => by
      have := low5 k h1; have := q9 k h2; have := pr9 k h2; omega
    have hnil : ∀ k, ¬ SS [nilSV] k := fun k h => by have := ss_one h; simp [nilSV, Value.ownBlock] at this
    have d7 : Dist ([sa] ++ [sb] ++ [rv7] ++ [rv9] ++ vs7 ++ vs9 ++ [nilSV]) := d6.append (dist_one nilSV) fun k _ h2 => hnil k h2
    have low7 : ∀ k, SS ([sa] ++ [sb] ++ [rv7] ++ [rv9] ++ vs7 ++ vs9 ++ [nilSV]) k → w3.heap.size ≤ k := fun k h => by
      rcases ss_append h with h | h
      · rcases ss_append h with h | h
        · exact (low5 k h).1
        · have := q9 k h; omega
      · exact absurd h (hnil k)
    have rooms : RoomsL EB w16 ([sa] ++ [sb] ++ [rv7] ++ [rv9] ++ vs7 ++ vs9 ++ [nilSV]) ([framed ls] ++ [framed ls] ++ [fRest b] ++ [fRest b] ++ fRows b ++ fRows b ++ [[]]) :=
      ((((((RoomsL.one (RoomN.of_own (HO412.out.keepT HKT16.out))).append (RoomsL.one (RoomN.of_own (HO612.out.keepT HKT16.out)))).append (RoomsL.one (HF712.out.rest.keepT HKT16.out).room)).append (RoomsL.one (HF912.out.rest.keepT HKT16.out).room)).append
        (HF712.out.rows.keepT HKT16.out).rooms).append (HF912.out.rows.keepT HKT16.out).rooms).append (RoomsL.one (.inl ⟨rfl, rfl⟩))
    have hbound : ∀ j : Nat, ((([framed ls] ++ [framed ls] ++ [fRest b] ++ [fRest b] ++ fRows b ++ fRows b ++ [[]])[j]?).getD []).length ≤ 8388608 := fun j => by
      cases hj : ([framed ls] ++ [framed ls] ++ [fRest b] ++ [fRest b] ++ fRows b ++ fRows b ++ [[]])[j]? with
      | none => simp
      | some l =>
        have hm := List.mem_of_getElem? hj
        simp only [List.mem_append, List.mem_singleton] at hm
        show l.length ≤ 8388608
        have h1 := HFRM.out
        rcases hm with (((((rfl | rfl) | rfl) | rfl) | h) | h) | rfl
        · omega
        · omega
        · omega
        · omega
        · have := HFM.out l h; omega
        · have := HFM.out l h; omega
        · simp
    have hlen7 : ([sa] ++ [sb] ++ [rv7] ++ [rv9] ++ vs7 ++ vs9 ++ [nilSV]).length ≤ 4194304 := by simp; omega
    have hb16 : Below w3.heap.size w3 w16 := Agg.belowThen HW12.out (Nat.le_refl _) HX16.out
    have HB16 := Lib.hid hb16
    have HLOW := Lib.hid low7
    have HAP := Lib.hid (apartBytes_any v16 _ _ w16 HO16.out.slice rooms.of d7 hlen7 hbound)
    clear ra rb r7 q7 r9 q9 d2 d3 d4 d5 d6 d7 low4 low5 low7 hnil rooms hbound hb16 p7 pr7 p9 pr9
    refine HAP.out.mono ?_
    rintro e w17 ⟨rfl, ho17⟩
    have hb17 := only_below HB16.out ho17 HLOW.out
    have HB17 := Lib.hid hb17
    clear ho17
    go_wp2_with fail
    refine (keptRows_any u1 vl us vs ls hll HALL2.out _ w17 (HU.out.below hb17) (fun W hW => HLU.out.below (Agg.belowThen hb17 (Nat.le_refl _) hW)) (HL3.out.below hb17) (HR3.out.below hb17)).mono ?_
    rintro e w18 ⟨rfl, hx18⟩
    have hb18 := Agg.belowThen hb17 (Nat.le_refl _) hx18
    have HB18 := Lib.hid hb18
    clear hx18 hb17
    go_wp2_with fail
    refine (keptBytes_any u2 vb b hbl _ w18 (lent_below HL2.out hb18) (HB3.out.below hb18)).mono ?_
    rintro e w19 ⟨rfl, hx19⟩
    have HB19 := Lib.hid (Agg.belowThen HB18.out (Nat.le_refl _) hx19)
    clear hx19 hb18
    go_wp2_with fail
    refine (awake28_any w19).mono ?_
    rintro e w20 ⟨rfl, hx20⟩
    have HB20 := Lib.hid (Agg.belowThen HX3.out (Nat.le_refl _) (Agg.belowThen HB19.out (Nat.le_refl _) hx20))
    clear hx20
    go_wp2_with fail
    go_ret
    exact ⟨rfl, HB20.out⟩
  · by_cases hn6 : n ≤ 6000
    · have hI1 : ¬ (6000 : Int) < (n : Int) := by omega
      have hI2 : (6000 : Int) < (b.length : Int) := by omega
      clear hn hgo hbig
      go_wp2_with fail
      refine (awake28_any _).mono ?_
      rintro e w2 ⟨rfl, hx2⟩
      go_wp2_with fail
      go_ret
      exact ⟨rfl, hx2⟩
    · have hI1 : (6000 : Int) < (n : Int) := by omega
      clear hn hgo hbig
      go_wp2_with fail
      refine (awake28_any _).mono ?_
      rintro e w2 ⟨rfl, hx2⟩
      go_wp2_with fail
      go_ret
      exact ⟨rfl, hx2⟩
end Go.Proofs.Ytpnolgliklmnmaa
