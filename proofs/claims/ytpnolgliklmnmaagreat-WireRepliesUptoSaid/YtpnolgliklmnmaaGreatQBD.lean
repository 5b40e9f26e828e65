/- spencelaw28.WireReplies. (Several texts in one.) -/
import Derived.Test.YtpnolgliklmnmaaGreatQBB
import Derived.Test.YtpnolgliklmnmaaGreatQBC
import Derived.Test.YtpnolgliklmnmaaGreatQAF
import Derived.Test.YtpnolgliklmnmaaGreatQAH
import Derived.Test.YtpnolgliklmnmaaGreatQAT
import Derived.Test.YtpnolgliklmnmaaGreatQBA
/-! Rows of bytes in blocks of their own, for ApartBytes. -/
namespace Go.Agg
open Go.RowKit
section
variable {P : Program} {α : Type} {E : Elem P α}
/-- the blocks of two rows of slices are apart -/
def Cross (vs us : List SV) : Prop := ∀ b, SS vs b → ¬ SS us b
theorem Dist.append {vs us : List SV} (h : Dist vs) (k : Dist us) (hc : Cross vs us) : Dist (vs ++ us) := by
  have one : ∀ (i : Nat) (u : SV), (vs ++ us)[i]? = some u → (i < vs.length ∧ vs[i]? = some u) ∨ (vs.length ≤ i ∧ us[i - vs.length]? = some u) := fun i u h => by
    by_cases hi : i < vs.length
    · rw [List.getElem?_append_left hi] at h; exact .inl ⟨hi, h⟩
    · rw [List.getElem?_append_right (by omega)] at h; exact .inr ⟨by omega, h⟩
  intro i j u v hi hj hij b hu hv
  rcases one i u hi with ⟨h1, h2⟩ | ⟨h1, h2⟩ <;> rcases one j v hj with ⟨h3, h4⟩ | ⟨h3, h4⟩
  · exact h i j u v h2 h4 hij b hu hv
  · exact hc b ⟨_, u, h2, hu⟩ ⟨_, v, h4, hv⟩
  · exact hc b ⟨_, v, h4, hv⟩ ⟨_, u, h2, hu⟩
  · exact k _ _ u v h2 h4 (by omega) b hu hv
theorem ss_append {vs us : List SV} {b : Nat} (h : SS (vs ++ us) b) : SS vs b ∨ SS us b := by
  obtain ⟨i, u, hi, hb⟩ := h
  by_cases hl : i < vs.length
  · rw [List.getElem?_append_left hl] at hi; exact .inl ⟨i, u, hi, hb⟩
  · rw [List.getElem?_append_right (by omega)] at hi; exact .inr ⟨_, u, hi, hb⟩
theorem dist_one (v : SV) : Dist [v] := by
  intro i j u w hi hj hij
  match i, j, hi, hj with
  | 0, 0, _, _ => exact absurd rfl hij
  | 0, n + 1, _, hj => simp at hj
  | n + 1, _, hi, _ => simp at hi
theorem ss_one {v : SV} {b : Nat} (h : SS [v] b) : v.1.ownBlock = some b := by
  obtain ⟨i, u, hi, hb⟩ := h
  match i, hi with
  | 0, hi =>
    obtain rfl : v = u := by simpa using hi
    exact hb
/-- what is in rows, as a list -/
structure RoomsL (E : Elem P α) (w : World) (vs : List SV) (fs : List (List α)) : Prop where
  len : vs.length = fs.length
  row : ∀ (k : Nat) (v : SV) (l : List α), vs[k]? = some v → fs[k]? = some l → RoomN E w v.1 l
theorem RoomsL.of {w : World} {vs : List SV} {fs : List (List α)} (h : RoomsL E w vs fs) : RoomsOf E w vs fun k => (fs[k]?).getD [] := fun k v hk => by
  obtain ⟨l, hl⟩ : ∃ l, fs[k]? = some l := ⟨_, List.getElem?_eq_getElem (by rw [← h.len]; exact (List.getElem?_eq_some_iff.1 hk).1)⟩
  show RoomN E w v.1 ((fs[k]?).getD [])
  rw [hl]
  exact h.row k v l hk hl
theorem RoomsL.append {w : World} {vs us : List SV} {fs gs : List (List α)} (h : RoomsL E w vs fs) (k : RoomsL E w us gs) : RoomsL E w (vs ++ us) (fs ++ gs) := by
  have h1 := h.len
  refine ⟨by simp [h.len, k.len], fun i s l hs hl => ?_⟩
  by_cases hi : i < vs.length
  · rw [List.getElem?_append_left hi] at hs
    rw [List.getElem?_append_left (by omega)] at hl
    exact h.row i s l hs hl
  · rw [List.getElem?_append_right (by omega)] at hs hl
    rw [show i - fs.length = i - vs.length by omega] at hl
    exact k.row _ s l hs hl
theorem RoomsL.one {w : World} {v : SV} {l : List α} (h : RoomN E w v.1 l) : RoomsL E w [v] [l] := ⟨rfl, fun k u m hk hm => by
  match k, hk, hm with
  | 0, hk, hm =>
    obtain rfl : v = u := by simpa using hk
    obtain rfl : l = m := by simpa using hm
    exact h⟩
end
end Go.Agg
namespace Go.Proofs.YtpnolgliklmnmaaGreat
open Go.RowKit Pl Go.Agg
theorem RowsOwn.rooms {base : Nat} {w : World} {vs : List SV} {ls : List (List UInt8)} (h : RowsOwn base w vs ls) : RoomsL EB w vs ls := ⟨h.len, fun k s l h1 h2 => RoomN.of_own (h.row k s l h1 h2)⟩
section
variable {ops : Array Oper} {rest : List Oper} {o : Oper} {a : Act} {w : World} {Q : Exit → Act → World → Prop}
/-- '[][]byte{a, b, c, d}' -/
theorem wpList_rows4 (hg : Region.wanted o (yielded ops a.tmps) = true) (x1 x2 x3 x4 : Operand) (ho : o.op = .buildSlice 42 4 #[(0, x1), (1, x2), (2, x3), (3, x4)]) (s1 s2 s3 s4 : SV) (h1 : a.eval x1 = s1.1) (h2 : a.eval x2 = s2.1) (h3 : a.eval x3 = s3.1) (h4 : a.eval x4 = s4.1)
    (h : ∀ v' w', Own EBB w.heap.size w' v' [s1, s2, s3, s4] → Below w.heap.size w w' → wpList Tryz.prog ops Q rest (a.put o.dst v') w') : wpList Tryz.prog ops Q (o :: rest) a w := by
  obtain ⟨v1, p1, n1, c1, rfl⟩ := s1
  obtain ⟨v2, p2, n2, c2, rfl⟩ := s2
  obtain ⟨v3, p3, n3, c3, rfl⟩ := s3
  obtain ⟨v4, p4, n4, c4, rfl⟩ := s4
  have hb : (Instr.buildSlice 42 4 #[(0, .slice p1 n1 c1), (1, .slice p2 n2 c2), (2, .slice p3 n3 c3), (3, .slice p4 n4 c4)]).run Tryz.prog w = .ok (.slice (some ⟨w.heap.size, 0, none⟩) 4 4) (w.alloc (.cells #[.slice p1 n1 c1, .slice p2 n2 c2, .slice p3 n3 c3, .slice p4 n4 c4] 23)) := by kernel_rfl
  refine wpList_valw hg (v := .slice (some ⟨w.heap.size, 0, none⟩) 4 4) (w' := w.alloc (.cells #[.slice p1 n1 c1, .slice p2 n2 c2, .slice p3 n3 c3, .slice p4 n4 c4] 23)) (by simp [execOp, ho, h1, h2, h3, h4, hb]) (h _ _ ?_ ((Below.refl _ _).alloc (Nat.le_refl _) _))
  exact ⟨rfl, .inr ⟨w.heap.size, 4, #[.slice p1 n1 c1, .slice p2 n2 c2, .slice p3 n3 c3, .slice p4 n4 c4], rfl, Nat.le_refl _, heap_alloc_new w _, Nat.le_refl _, by decide, rfl, rfl⟩⟩
end
theorem sliceOf_lent {base : Nat} {w : World} {u : Value} {l : List UInt8} (h : Lent EB (marks 1 12) base w u l) : BytesAt w u l := by
  obtain ⟨g, cap, rfl, _, _, hs⟩ := h
  exact sliceOf_prefix hs
theorem lent_below {base : Nat} {w w' : World} {u : Value} {l : List UInt8} (h : Lent EB (marks 1 12) base w u l) (hb : Below w.heap.size w w') : Lent EB (marks 1 12) base w' u l := by
  obtain ⟨g, cap, rfl, h1, h2, hs⟩ := h
  exact ⟨g, cap, rfl, h1, h2, hs.below hb⟩
theorem own_sv {base : Nat} {w : World} {v : Value} {l : List UInt8} (h : Own EB base w v l) : ∃ s : SV, v = s.1 := by
  obtain ⟨p, c, hf⟩ := h.slice.form
  exact ⟨⟨v, p, _, c, hf⟩, rfl⟩
theorem own_in {base : Nat} {w : World} {v : Value} {l : List UInt8} (h : Own EB base w v l) : ∀ k, v.ownBlock = some k → base ≤ k ∧ k < w.heap.size := fun k hk => by
  obtain ⟨h1, cur, hc⟩ := h.block k hk
  exact ⟨h1, Agg.heap_lt hc⟩
theorem Rest.keepT {base : Nat} {w w' : World} {v : Value} {r : List UInt8} (h : Rest base w v r) (hk : ∀ (g : Nat) (cur : Array Value) (fr : Nat × Nat), w.heap[g]? = some (Obj.cells cur 5 fr) → w'.heap[g]? = some (Obj.cells cur 5 fr)) : Rest base w' v r := by
  rcases h with h | ⟨g, off, cap, cs, rfl, hle, hg, hb, hc⟩
  · exact .inl h
  · exact .inr ⟨g, off, cap, cs, rfl, hle, hg, hk g cs _ hb, hc⟩
end Go.Proofs.YtpnolgliklmnmaaGreat
/-! spencelaw28.WireReplies. -/
namespace Go.Agg
open Go.RowKit
section
variable {P : Program} {α : Type} {E : Elem P α} {base : Nat} {ops : Array Oper} {rest : List Oper} {o : Oper} {a : Act} {w : World} {Q : Exit → Act → World → Prop}
/-- '[]T{x}', guarded -/
theorem wpList_slice1w (hg : Region.wanted o (yielded ops a.tmps) = true) (y : Operand) (ho : o.op = .buildSlice E.st 1 #[(0, y)]) (x : α) (hy : a.eval y = E.val x) (hbase : base ≤ w.heap.size)
    (h : ∀ v' w', Own E base w' v' [x] → Below w.heap.size w w' → wpList P ops Q rest (a.put o.dst v') w') : wpList P ops Q (o :: rest) a w := by
  refine wpList_valw hg (v := .slice (some ⟨w.heap.size, 0, none⟩) 1 1) (w' := w.alloc (.cells (E.val x).cells E.ty)) (by simp [execOp, ho, hy, run_slice_one]) (h _ _ ?_ ((Below.refl _ _).alloc (Nat.le_refl _) _))
  have hs := E.size x
  refine ⟨by rw [E.flat_one, E.cs_length]; simp, .inr ⟨_, 1, _, rfl, hbase, heap_alloc_new w _, Nat.le_refl _, by simp [maxLen], by rw [hs]; simp, ?_⟩⟩
  rw [E.flat_one, Elem.cs, List.take_of_length_le (by rw [Array.length_toList, hs]; simp)]
theorem wpList_slice2w (hg : Region.wanted o (yielded ops a.tmps) = true) (x y : Operand) (ho : o.op = .buildSlice E.st 2 #[(0, x), (1, y)]) (vx vy : α) (hx : a.eval x = E.val vx) (hy : a.eval y = E.val vy)
    (h : ∀ v' w', SliceOf E w' v' [vx, vy] → Below w.heap.size w w' → wpList P ops Q rest (a.put o.dst v') w') : wpList P ops Q (o :: rest) a w :=
  wpList_valw hg (v := .slice (some ⟨w.heap.size, 0, none⟩) 2 2) (w' := w.alloc (.cells ((E.val vx).cells ++ (E.val vy).cells) E.ty)) (by simp [execOp, ho, hx, hy, run_slice_two])
    (h _ _ (slice_of_block2 (Blk.new w E.ty _)) ((Below.refl _ _).alloc (Nat.le_refl _) _))
end
end Go.Agg
namespace Go.Proofs.YtpnolgliklmnmaaGreat
open Go.RowKit Pl Go.Agg
theorem rpBytes_len {q : Rp} (hc : q.ch.length = 20) : (rpBytes q).length ≤ 200000 := by
  unfold rpBytes
  split
  · rename_i h; exact putRp_len h hc
  · simp
theorem sum_mem_le {l : List P20} {x : P20} (h : x ∈ l) : x.1.2.length ≤ (l.map fun p => p.1.2.length).sum := by
  induction l with
  | nil => cases h
  | cons y l ih =>
    simp only [List.map_cons, List.sum_cons]
    rcases List.mem_cons.1 h with rfl | h
    · omega
    · have := ih h
      omega
theorem pathsGo_max {most M : Nat} (hM : most + 1 + 1048576 ≤ M) : ∀ (l : List P20) (n : Nat), (∀ x ∈ l, x.1.2.length ≤ 1048576) → n ≤ M → pathsGo most n l ≤ M
  | [], n, _, hn => by simpa [pathsGo] using hn
  | x :: l, n, h, hn => by
    unfold pathsGo
    have hx := h x (List.mem_cons_self ..)
    split
    · exact pathsGo_max hM l _ (fun y hy => h y (List.mem_cons_of_mem _ hy)) (by omega)
    · exact hn
theorem own_svP {base : Nat} {w : World} {v : Value} {l : List P20} (h : Own E20 base w v l) : ∃ s : SV, v = s.1 := by
  obtain ⟨p, c, hf⟩ := h.slice.form
  exact ⟨⟨v, p, _, c, hf⟩, rfl⟩
theorem own_inE {α : Type} {E : Elem Tryz.prog α} {base : Nat} {w : World} {v : Value} {l : List α} (h : Own E base w v l) : ∀ k, v.ownBlock = some k → base ≤ k ∧ k < w.heap.size := fun k hk => by
  obtain ⟨h1, cur, hc⟩ := h.block k hk
  exact ⟨h1, Agg.heap_lt hc⟩
theorem own_svE {base : Nat} {w : World} {v : Value} {l : List RpE} (h : Own ER base w v l) : ∃ s : SV, v = s.1 := by
  obtain ⟨p, c, hf⟩ := h.slice.form
  exact ⟨⟨v, p, _, c, hf⟩, rfl⟩
set_option maxRecDepth 100000 in
set_option maxHeartbeats 8000000 in
theorem wireReplies_any (e0 g0 m1 : Int) (vb : Value) (bs : List P20) (ph pn ch : List UInt8) (hl : ph.length = 20) (hc : ch.length = 20) (v : Value) (b : List UInt8) (m0 : Int)
    (h1 : pn.length ≤ 1048576) (h2 : bs.length ≤ 1048576) (h3 : ∀ x ∈ bs, x.1.2.length ≤ 1048576) (h4 : b.length ≤ 1048576) (w : World) (hm : w.cell? ⟨0, 0, none⟩ = some (.int .i64 m0)) (hb : ElemsAt w vb bs) (hv : BytesAt w v b) :
    Calls Tryz.prog 4 #[.agg (rpG e0 ph pn ch g0 vb m1), v] w fun x w' => x = .returned (.bool true) ∧ Below w.heap.size w w' := by
  have HM := Lib.hid hm
  have hbm := block_lt_of_cell hm
  have hlv := fun W => bytes_len hv W
  have hlp := str_len' pn
  have VB_w := Lib.hid hb
  have V_w := Lib.hid hv
  have HOL := Lib.hid (rpOut_hash b)
  have HOB := Lib.hid (rpOut_len b)
  have HBL := Lib.hid (rpBytes_len (q := (⟨e0, ph, pn, ch, g0, bs, m1⟩ : Rp)) hc)
  have H3 := Lib.hid h3
  obtain ⟨np, hnp⟩ : ∃ n, pathsGo 6000 0 bs = n := ⟨_, rfl⟩
  have HPO := Lib.hid (fun W (h : ElemsAt W vb bs) => (show Calls Tryz.prog 20 #[vb, .int .i64 6000] W fun e w' => e = .returned (.int .i64 (np : Int)) ∧ Below W.heap.size W w' by have := pathsOf_any vb bs 6000 (by omega) h2 h3 W h; rw [hnp] at this; exact this))
  have hnpb : np ≤ 1100000 := by rw [← hnp]; exact pathsGo_max (by omega) bs 0 h3 (by omega)
  clear hm hb hv h3 hnp
  by_cases hsum : 6000 < np + pn.length + b.length
  · have hI : (6000 : Int) < (np : Int) + (pn.length : Int) + (b.length : Int) := by omega
    go_enter Tryz.func4, Tryz.ntmps4
    go_wp2_with (first | (with_reducible refine Agg.wpList_box rfl 46 _ rfl (rpG e0 ph pn ch g0 vb m1) rfl ?_; intro gq w1 hb1 hx hg1; have GQ_1 := Lib.hid hb1; have VB_1 := Lib.hid (VB_w.out.below hx); have V_1 := Lib.hid (V_w.out.below hx); have K_1 := Lib.hid hx; have s_w_1 := hx.size; have hlq1 := hb1.lt; clear hb1 hx hg1))
    have HPP := Lib.hid (RpG.of_blk GQ_1.out hl hc).paths
    have HPN := Lib.hid (RpG.pname2 GQ_1.out hl)
    have HPC := Lib.hid (fun x : Later w1 => HPO.out x.w (VB_1.out.below x.h))
    try simp only [Act.put, List.setIfInBounds_toArray, List.set_cons_succ, List.set_cons_zero]
    refine Agg.wp_region_later_lit (by kernel_rfl) (by kernel_rfl) ?_
    repeat (first | go_big_quiet_skip | ((first | (with_reducible refine Agg.wpQuiet_loadL HPP.out rfl _ rfl rfl ?_) | (with_reducible refine Agg.wpQuiet_loadL HPN.out rfl _ rfl rfl ?_)); simp only [Act.put, List.setIfInBounds_toArray, List.set_cons_succ, List.set_cons_zero]) | go_big_quiet_step ((go_at_call 20; exact Agg.Calls.later (HPC.out _))))
    refine wpQuiet_nil ?_
    intro _ hw'
    obtain ⟨x1, rfl⟩ := hw'
    clear HPP HPN HPC
    obtain ⟨w11, hw11⟩ : ∃ W, W = x1.w := ⟨_, rfl⟩
    have hx := x1.h
    rw [← hw11] at hx ⊢
    clear hw11
    have GQ_11 := Lib.hid (GQ_1.out.below hx)
    have VB_11 := Lib.hid (VB_1.out.below hx)
    have V_11 := Lib.hid (V_1.out.below hx)
    have K_11 := Lib.hid (Agg.belowThen K_1.out (Nat.le_refl _) hx)
    have s_1_11 := hx.size
    clear hx
    go_wp2_with fail
    refine (awake28_any _).mono ?_
    rintro x w3 ⟨rfl, hx⟩
    have K_3 := Lib.hid (Agg.belowThen K_11.out (Nat.le_refl _) hx)
    clear hx
    go_wp2_with fail
    go_ret
    exact ⟨rfl, K_3.out⟩
  have hI : ¬ (6000 : Int) < (np : Int) + (pn.length : Int) + (b.length : Int) := by omega
  go_enter Tryz.func4, Tryz.ntmps4
  go_wp2_with (first | (with_reducible refine Agg.wpList_box rfl 46 _ rfl (rpG e0 ph pn ch g0 vb m1) rfl ?_; intro gq w1 hb1 hx hg1; have GQ_1 := Lib.hid hb1; have VB_1 := Lib.hid (VB_w.out.below hx); have V_1 := Lib.hid (V_w.out.below hx); have K_1 := Lib.hid hx; have s_w_1 := hx.size; have hlq1 := hb1.lt; clear hb1 hx hg1))
  have HPP := Lib.hid (RpG.of_blk GQ_1.out hl hc).paths
  have HPN := Lib.hid (RpG.pname2 GQ_1.out hl)
  have HPC := Lib.hid (fun x : Later w1 => HPO.out x.w (VB_1.out.below x.h))
  try simp only [Act.put, List.setIfInBounds_toArray, List.set_cons_succ, List.set_cons_zero]
  refine Agg.wp_region_later_lit (by kernel_rfl) (by kernel_rfl) ?_
  repeat (first | go_big_quiet_skip | ((first | (with_reducible refine Agg.wpQuiet_loadL HPP.out rfl _ rfl rfl ?_) | (with_reducible refine Agg.wpQuiet_loadL HPN.out rfl _ rfl rfl ?_)); simp only [Act.put, List.setIfInBounds_toArray, List.set_cons_succ, List.set_cons_zero]) | go_big_quiet_step ((go_at_call 20; exact Agg.Calls.later (HPC.out _))))
  refine wpQuiet_nil ?_
  intro _ hw'
  obtain ⟨x1, rfl⟩ := hw'
  clear HPP HPN HPC
  obtain ⟨w11, hw11⟩ : ∃ W, W = x1.w := ⟨_, rfl⟩
  have hx := x1.h
  rw [← hw11] at hx ⊢
  clear hw11
  have GQ_11 := Lib.hid (GQ_1.out.below hx)
  have VB_11 := Lib.hid (VB_1.out.below hx)
  have V_11 := Lib.hid (V_1.out.below hx)
  have K_11 := Lib.hid (Agg.belowThen K_1.out (Nat.le_refl _) hx)
  have s_1_11 := hx.size
  clear hx
  go_wp2_with (first | (with_reducible refine Agg.wpList_loadL (RpG.of_blk GQ_11.out hl hc).all rfl _ rfl rfl ?_))
  clear hI hlp hlv
  refine (lentRep_any e0 g0 m1 ph pn ch vb bs hl hc h2 _ VB_11.out).mono ?_
  rintro x w2 ⟨ub, rfl, hx, hlu⟩
  have UB_2 := Lib.hid hlu
  clear hlu
  have GQ_2 := Lib.hid (GQ_11.out.below hx)
  have VB_2 := Lib.hid (VB_11.out.below hx)
  have V_2 := Lib.hid (V_11.out.below hx)
  have K_2 := Lib.hid (Agg.belowThen K_11.out (Nat.le_refl _) hx)
  have s_11_2 := hx.size
  clear hx
  go_wp2_with fail
  refine (lentBytes_any v b h4 _ V_2.out).mono ?_
  rintro x w3 ⟨vi, rfl, hx, hlu⟩
  have VI_3 := Lib.hid hlu
  have UB_3 := Lib.hid (UB_2.out.below hx)
  clear hlu
  have GQ_3 := Lib.hid (GQ_2.out.below hx)
  have VB_3 := Lib.hid (VB_2.out.below hx)
  have V_3 := Lib.hid (V_2.out.below hx)
  have K_3 := Lib.hid (Agg.belowThen K_2.out (Nat.le_refl _) hx)
  have s_2_3 := hx.size
  clear hx
  go_wp2_with (first | (refine Agg.wpList_new rfl rfl rfl 46 5 33 rfl rfl rfl (by decide) (rpG 0 z20 [] z20 0 (.slice none 0 0) 0) (rpG e0 ph pn ch g0 ub m1) rp_zero (by rw [rpG_size z20_length z20_length, rpG_size hl hc]) (rp_info hl hc) ((rp_one UB_3.out.slice _ _ _ _ _ _)) rfl (by first | (simp; done) | simp [Act.put]) ?_; intro gx w4 hb hx hg; have GX_4 := Lib.hid hb; have hlx4 := hb.lt; have hgx4 := hg; have UB_4 := Lib.hid (UB_3.out.below hx); have VI_4 := Lib.hid (lent_below VI_3.out hx); have GQ_4 := Lib.hid (GQ_3.out.below hx); have VB_4 := Lib.hid (VB_3.out.below hx); have V_4 := Lib.hid (V_3.out.below hx); have K_4 := Lib.hid (Agg.belowThen K_3.out (Nat.le_refl _) hx); have K4_4 := Lib.hid (Below.refl w4.heap.size w4); have s_3_4 := hx.size; clear hb hx) | (with_reducible refine Agg.wpList_loadL (RpG.of_blk GX_4.out hl hc).all rfl _ rfl rfl ?_))
  obtain ⟨cd, hcd⟩ : ∃ x, rpCode (⟨e0, ph, pn, ch, g0, bs, m1⟩ : Rp) = x := ⟨_, rfl⟩
  obtain ⟨ab, hab⟩ : ∃ x, rpBytes (⟨e0, ph, pn, ch, g0, bs, m1⟩ : Rp) = x := ⟨_, rfl⟩
  have hblen : ab.length ≤ 200000 := by rw [← hab]; exact HBL.out
  refine (pputr_of ⟨hcd, hab⟩ ub hl hc h2 _ UB_4.out.slice).mono ?_
  rintro x w5 ⟨va, rfl, ho, hx⟩
  obtain ⟨sa, rfl⟩ := own_sv ho
  have A_5 := Lib.hid ho
  have ra := own_in ho
  clear ho
  have UB_5 := Lib.hid (UB_4.out.below hx)
  have VI_5 := Lib.hid (lent_below VI_4.out hx)
  have GQ_5 := Lib.hid (GQ_4.out.below hx)
  have VB_5 := Lib.hid (VB_4.out.below hx)
  have V_5 := Lib.hid (V_4.out.below hx)
  have GX_5 := Lib.hid (GX_4.out.below hx)
  have K_5 := Lib.hid (Agg.belowThen K_4.out (Nat.le_refl _) hx)
  have K4_5 := Lib.hid (Agg.belowThen K4_4.out (Nat.le_refl _) hx)
  have s_4_5 := hx.size
  clear hx
  go_wp2_with (first | (with_reducible refine Agg.wpList_loadL (RpG.of_blk GQ_5.out hl hc).all rfl _ rfl rfl ?_))
  have hput := refPutR_any e0 g0 m1 ph pn ch vb bs hl hc h1 h2 H3.out _ VB_5.out
  rw [hcd, hab] at hput
  refine hput.mono ?_
  rintro x w6 ⟨vc, rfl, ho, hx⟩
  have C_6 := Lib.hid ho.slice
  clear ho hput
  have UB_6 := Lib.hid (UB_5.out.below hx)
  have VI_6 := Lib.hid (lent_below VI_5.out hx)
  have GQ_6 := Lib.hid (GQ_5.out.below hx)
  have VB_6 := Lib.hid (VB_5.out.below hx)
  have V_6 := Lib.hid (V_5.out.below hx)
  have GX_6 := Lib.hid (GX_5.out.below hx)
  have A_6 := Lib.hid (A_5.out.below hx)
  have K_6 := Lib.hid (Agg.belowThen K_5.out (Nat.le_refl _) hx)
  have K4_6 := Lib.hid (Agg.belowThen K4_5.out (Nat.le_refl _) hx)
  have s_5_6 := hx.size
  clear hx
  go_wp2_with (first | (with_reducible refine Agg.wpList_loadL (RpG.of_blk GX_6.out hl hc).all rfl _ rfl rfl ?_))
  refine (pputr_of ⟨hcd, hab⟩ ub hl hc h2 _ UB_6.out.slice).mono ?_
  rintro x w7 ⟨va2, rfl, ho, hx⟩
  obtain ⟨sb, rfl⟩ := own_sv ho
  have B_7 := Lib.hid ho
  have rb := own_in ho
  clear ho
  have UB_7 := Lib.hid (UB_6.out.below hx)
  have VI_7 := Lib.hid (lent_below VI_6.out hx)
  have GQ_7 := Lib.hid (GQ_6.out.below hx)
  have VB_7 := Lib.hid (VB_6.out.below hx)
  have V_7 := Lib.hid (V_6.out.below hx)
  have GX_7 := Lib.hid (GX_6.out.below hx)
  have A_7 := Lib.hid (A_6.out.below hx)
  have C_7 := Lib.hid (C_6.out.below hx)
  have K_7 := Lib.hid (Agg.belowThen K_6.out (Nat.le_refl _) hx)
  have K4_7 := Lib.hid (Agg.belowThen K4_6.out (Nat.le_refl _) hx)
  have s_6_7 := hx.size
  clear hx
  go_wp2_with fail
  refine (rgetp_any vi b m0 _ (by omega) ((K_7.out.cell hbm).trans HM.out) (sliceOf_lent VI_7.out)).mono ?_
  rintro x w8 ⟨vd, rfl, ho, hx⟩
  obtain ⟨sd, rfl⟩ := own_svP ho
  have D_8 := Lib.hid ho
  have rd := own_inE ho
  clear ho
  have UB_8 := Lib.hid (UB_7.out.below hx)
  have VI_8 := Lib.hid (lent_below VI_7.out hx)
  have GQ_8 := Lib.hid (GQ_7.out.below hx)
  have VB_8 := Lib.hid (VB_7.out.below hx)
  have V_8 := Lib.hid (V_7.out.below hx)
  have GX_8 := Lib.hid (GX_7.out.below hx)
  have A_8 := Lib.hid (A_7.out.below hx)
  have C_8 := Lib.hid (C_7.out.below hx)
  have B_8 := Lib.hid (B_7.out.below hx)
  have K_8 := Lib.hid (Agg.belowThen K_7.out (Nat.le_refl _) hx)
  have K4_8 := Lib.hid (Agg.belowThen K4_7.out (Nat.le_refl _) hx)
  have s_7_8 := hx.size
  clear hx
  go_wp2_with (first | (refine Agg.wpList_new rfl rfl rfl 46 13 54 rfl rfl rfl (by decide) (rpG 0 z20 [] z20 0 (.slice none 0 0) 0) (rpG (rpOut b).e (rpOut b).ph (rpOut b).pn (rpOut b).ch (rpOut b).g sd.1 (rpOut b).m) rp_zero (by rw [rpG_size z20_length z20_length, rpG_size HOL.out.1 HOL.out.2]) (rp_info HOL.out.1 HOL.out.2) ((rp_one D_8.out.slice _ _ _ _ _ _)) rfl (by first | (simp; done) | simp [Act.put]) ?_; intro gd w9 hb hx hg; have GD_9 := Lib.hid hb; have hlgd := hb.lt; have hggd := hg; have UB_9 := Lib.hid (UB_8.out.below hx); have VI_9 := Lib.hid (lent_below VI_8.out hx); have GQ_9 := Lib.hid (GQ_8.out.below hx); have VB_9 := Lib.hid (VB_8.out.below hx); have V_9 := Lib.hid (V_8.out.below hx); have GX_9 := Lib.hid (GX_8.out.below hx); have A_9 := Lib.hid (A_8.out.below hx); have C_9 := Lib.hid (C_8.out.below hx); have B_9 := Lib.hid (B_8.out.below hx); have D_9 := Lib.hid (D_8.out.below hx); have K_9 := Lib.hid (Agg.belowThen K_8.out (Nat.le_refl _) hx); have K4_9 := Lib.hid (Agg.belowThen K4_8.out (Nat.le_refl _) hx); have s_8_9 := hx.size; clear hb hx))
  refine (refGetR_any v b _ (by omega) V_9.out).mono ?_
  rintro x w10 ⟨vh, rfl, ho, hx⟩
  have H_10 := Lib.hid ho.slice
  clear ho
  have UB_10 := Lib.hid (UB_9.out.below hx)
  have VI_10 := Lib.hid (lent_below VI_9.out hx)
  have GQ_10 := Lib.hid (GQ_9.out.below hx)
  have VB_10 := Lib.hid (VB_9.out.below hx)
  have V_10 := Lib.hid (V_9.out.below hx)
  have GX_10 := Lib.hid (GX_9.out.below hx)
  have A_10 := Lib.hid (A_9.out.below hx)
  have C_10 := Lib.hid (C_9.out.below hx)
  have B_10 := Lib.hid (B_9.out.below hx)
  have D_10 := Lib.hid (D_9.out.below hx)
  have GD_10 := Lib.hid (GD_9.out.below hx)
  have K_10 := Lib.hid (Agg.belowThen K_9.out (Nat.le_refl _) hx)
  have K4_10 := Lib.hid (Agg.belowThen K4_9.out (Nat.le_refl _) hx)
  have s_9_10 := hx.size
  clear hx
  go_wp2_with (first | (refine Agg.wpList_new rfl rfl rfl 46 15 59 rfl rfl rfl (by decide) (rpG 0 z20 [] z20 0 (.slice none 0 0) 0) (rpG (rpOut b).e (rpOut b).ph (rpOut b).pn (rpOut b).ch (rpOut b).g vh (rpOut b).m) rp_zero (by rw [rpG_size z20_length z20_length, rpG_size HOL.out.1 HOL.out.2]) (rp_info HOL.out.1 HOL.out.2) ((rp_one H_10.out _ _ _ _ _ _)) rfl (by first | (simp; done) | simp [Act.put]) ?_; intro gh w111 hb hx hg; have GH_111 := Lib.hid hb; have hlgh := hb.lt; have hggh := hg; have UB_111 := Lib.hid (UB_10.out.below hx); have VI_111 := Lib.hid (lent_below VI_10.out hx); have GQ_111 := Lib.hid (GQ_10.out.below hx); have VB_111 := Lib.hid (VB_10.out.below hx); have V_111 := Lib.hid (V_10.out.below hx); have GX_111 := Lib.hid (GX_10.out.below hx); have A_111 := Lib.hid (A_10.out.below hx); have C_111 := Lib.hid (C_10.out.below hx); have B_111 := Lib.hid (B_10.out.below hx); have D_111 := Lib.hid (D_10.out.below hx); have GD_111 := Lib.hid (GD_10.out.below hx); have H_111 := Lib.hid (H_10.out.below hx); have K_111 := Lib.hid (Agg.belowThen K_10.out (Nat.le_refl _) hx); have K4_111 := Lib.hid (Agg.belowThen K4_10.out (Nat.le_refl _) hx); have s_10_111 := hx.size; clear hb hx))
  refine (rgetp_any vi b m0 _ (by omega) ((K_111.out.cell hbm).trans HM.out) (sliceOf_lent VI_111.out)).mono ?_
  rintro x w12 ⟨ve, rfl, ho, hx⟩
  obtain ⟨se, rfl⟩ := own_svP ho
  have E_12 := Lib.hid ho
  have re := own_inE ho
  clear ho
  have UB_12 := Lib.hid (UB_111.out.below hx)
  have VI_12 := Lib.hid (lent_below VI_111.out hx)
  have GQ_12 := Lib.hid (GQ_111.out.below hx)
  have VB_12 := Lib.hid (VB_111.out.below hx)
  have V_12 := Lib.hid (V_111.out.below hx)
  have GX_12 := Lib.hid (GX_111.out.below hx)
  have A_12 := Lib.hid (A_111.out.below hx)
  have C_12 := Lib.hid (C_111.out.below hx)
  have B_12 := Lib.hid (B_111.out.below hx)
  have D_12 := Lib.hid (D_111.out.below hx)
  have GD_12 := Lib.hid (GD_111.out.below hx)
  have H_12 := Lib.hid (H_111.out.below hx)
  have GH_12 := Lib.hid (GH_111.out.below hx)
  have K_12 := Lib.hid (Agg.belowThen K_111.out (Nat.le_refl _) hx)
  have K4_12 := Lib.hid (Agg.belowThen K4_111.out (Nat.le_refl _) hx)
  have s_111_12 := hx.size
  clear hx
  go_wp2_with (first | (refine Agg.wpList_new rfl rfl rfl 46 17 64 rfl rfl rfl (by decide) (rpG 0 z20 [] z20 0 (.slice none 0 0) 0) (rpG (rpOut b).e (rpOut b).ph (rpOut b).pn (rpOut b).ch (rpOut b).g se.1 (rpOut b).m) rp_zero (by rw [rpG_size z20_length z20_length, rpG_size HOL.out.1 HOL.out.2]) (rp_info HOL.out.1 HOL.out.2) ((rp_one E_12.out.slice _ _ _ _ _ _)) rfl (by first | (simp; done) | simp [Act.put]) ?_; intro ge w13 hb hx hg; have GE_13 := Lib.hid hb; have hlge := hb.lt; have hgge := hg; have UB_13 := Lib.hid (UB_12.out.below hx); have VI_13 := Lib.hid (lent_below VI_12.out hx); have GQ_13 := Lib.hid (GQ_12.out.below hx); have VB_13 := Lib.hid (VB_12.out.below hx); have V_13 := Lib.hid (V_12.out.below hx); have GX_13 := Lib.hid (GX_12.out.below hx); have A_13 := Lib.hid (A_12.out.below hx); have C_13 := Lib.hid (C_12.out.below hx); have B_13 := Lib.hid (B_12.out.below hx); have D_13 := Lib.hid (D_12.out.below hx); have GD_13 := Lib.hid (GD_12.out.below hx); have H_13 := Lib.hid (H_12.out.below hx); have GH_13 := Lib.hid (GH_12.out.below hx); have E_13 := Lib.hid (E_12.out.below hx); have K_13 := Lib.hid (Agg.belowThen K_12.out (Nat.le_refl _) hx); have K4_13 := Lib.hid (Agg.belowThen K4_12.out (Nat.le_refl _) hx); have s_12_13 := hx.size; clear hb hx))
  obtain ⟨rr, hrr⟩ : ∃ x, Rp.right (⟨e0, ph, pn, ch, g0, bs, m1⟩ : Rp) = x := ⟨_, rfl⟩
  have HR1 := Lib.hid (fun x : Later w13 => (show Calls Tryz.prog 26 #[.agg (rpG e0 ph pn ch g0 ub m1)] x.w fun e w' => e = .returned (.bool rr) ∧ Below x.w.heap.size x.w w' by have := rright_any e0 g0 m1 ph pn ch ub bs hl hc h2 x.w ((UB_13.out.slice).below x.h); rwa [hrr] at this))
  have HR2 := Lib.hid (fun x : Later w13 => (show Calls Tryz.prog 27 #[.agg (rpG e0 ph pn ch g0 vb m1)] x.w fun e w' => e = .returned (.bool rr) ∧ Below x.w.heap.size x.w w' by have := refRReply_any e0 g0 m1 ph pn ch vb bs hl hc h1 h2 H3.out x.w (VB_13.out.below x.h); rwa [hrr] at this))
  have HR3 := Lib.hid (fun x : Later w13 => (show Calls Tryz.prog 15 #[sa.1, vc] x.w fun e w' => e = .returned (.bool true) ∧ Below x.w.heap.size x.w w' by have := sameBytes_any sa.1 vc ab ab (by omega) (by omega) x.w (A_13.out.slice.below x.h) (C_13.out.below x.h); rwa [show decide (ab = ab) = true by simp] at this))
  have HR4 := Lib.hid (fun x : Later w13 => (show Calls Tryz.prog 28 #[.agg (rpG (rpOut b).e (rpOut b).ph (rpOut b).pn (rpOut b).ch (rpOut b).g sd.1 (rpOut b).m), .agg (rpG (rpOut b).e (rpOut b).ph (rpOut b).pn (rpOut b).ch (rpOut b).g vh (rpOut b).m)] x.w fun e w' => e = .returned (.bool true) ∧ Below x.w.heap.size x.w w' by have hob := HOB.out; have := sameRp_any (rpOut b).e (rpOut b).g (rpOut b).m (rpOut b).ph (rpOut b).pn (rpOut b).ch sd.1 (rpOut b).l HOL.out.1 HOL.out.2 (rpOut b).e (rpOut b).g (rpOut b).m (rpOut b).ph (rpOut b).pn (rpOut b).ch vh (rpOut b).l HOL.out.1 HOL.out.2 (by omega) (by omega) x.w (D_13.out.slice.below x.h) (H_13.out.below x.h); rwa [(sameRp_eq _ _).2 rfl] at this))
  obtain ⟨er, her⟩ : ∃ x, rpErr b = x := ⟨_, rfl⟩
  rw [her]
  have LX13 := Lib.hid (RpG.of_blk GX_13.out hl hc)
  have LQ13 := Lib.hid (RpG.of_blk GQ_13.out hl hc)
  have LD13 := Lib.hid (RpG.of_blk GD_13.out HOL.out.1 HOL.out.2)
  have LH13 := Lib.hid (RpG.of_blk GH_13.out HOL.out.1 HOL.out.2)
  have hrr2 : (rr != rr) = false := by cases rr <;> rfl
  have hcd2 : ((cd : Int) != (cd : Int)) = false := by simp
  have her2 : ((er : Int) != (er : Int)) = false := by simp
  clear hrr her
  try simp only [Act.put, List.setIfInBounds_toArray, List.set_cons_succ, List.set_cons_zero]
  refine Agg.wp_region_later_lit (by kernel_rfl) (by kernel_rfl) ?_
  repeat (first | go_big_quiet_skip | ((first | (with_reducible refine Agg.wpQuiet_loadL LX13.out.all rfl _ rfl rfl ?_) | (with_reducible refine Agg.wpQuiet_loadL LQ13.out.all rfl _ rfl rfl ?_) | (with_reducible refine Agg.wpQuiet_loadL LD13.out.all rfl _ rfl rfl ?_) | (with_reducible refine Agg.wpQuiet_loadL LH13.out.all rfl _ rfl rfl ?_)); simp only [Act.put, List.setIfInBounds_toArray, List.set_cons_succ, List.set_cons_zero]) | go_big_quiet_step ((first | (go_at_call 26; exact Agg.Calls.later (HR1.out _)) | (go_at_call 27; exact Agg.Calls.later (HR2.out _)) | (go_at_call 15; exact Agg.Calls.later (HR3.out _)) | (go_at_call 28; exact Agg.Calls.later (HR4.out _)))))
  refine wpQuiet_nil ?_
  intro _ hw'
  obtain ⟨x14, rfl⟩ := hw'
  clear HR1 HR2 HR3 HR4 hrr2 hcd2 her2 LX13 LQ13 LD13 LH13
  obtain ⟨w14, hw14⟩ : ∃ W, W = x14.w := ⟨_, rfl⟩
  have hx := x14.h
  rw [← hw14] at hx ⊢
  clear hw14
  have UB_14 := Lib.hid (UB_13.out.below hx)
  have VI_14 := Lib.hid (lent_below VI_13.out hx)
  have GQ_14 := Lib.hid (GQ_13.out.below hx)
  have VB_14 := Lib.hid (VB_13.out.below hx)
  have V_14 := Lib.hid (V_13.out.below hx)
  have GX_14 := Lib.hid (GX_13.out.below hx)
  have A_14 := Lib.hid (A_13.out.below hx)
  have C_14 := Lib.hid (C_13.out.below hx)
  have B_14 := Lib.hid (B_13.out.below hx)
  have D_14 := Lib.hid (D_13.out.below hx)
  have GD_14 := Lib.hid (GD_13.out.below hx)
  have H_14 := Lib.hid (H_13.out.below hx)
  have GH_14 := Lib.hid (GH_13.out.below hx)
  have E_14 := Lib.hid (E_13.out.below hx)
  have GE_14 := Lib.hid (GE_13.out.below hx)
  have K_14 := Lib.hid (Agg.belowThen K_13.out (Nat.le_refl _) hx)
  have K4_14 := Lib.hid (Agg.belowThen K4_13.out (Nat.le_refl _) hx)
  have s_13_14 := hx.size
  clear hx
  go_wp2_with (first | (refine Agg.wpList_slice2w (E := EBB) rfl _ _ rfl sa sb rfl rfl ?_; intro v15 w15 ho15 hx; have R_15 := Lib.hid ho15; clear ho15))
  have d2 : Dist ([sa] ++ [sb]) := (dist_one sa).append (dist_one sb) fun k h1 h2 => by
    have := ra k (ss_one h1); have := rb k (ss_one h2); omega
  have low4 : ∀ k, SS ([sa] ++ [sb]) k → w4.heap.size ≤ k ∧ k < w7.heap.size := fun k h => by
    rcases ss_append h with h | h
    · have := ra k (ss_one h); omega
    · have := rb k (ss_one h); omega
  have rooms : RoomsL EB w15 ([sa] ++ [sb]) ([ab] ++ [ab]) := (RoomsL.one (RoomN.of_own (A_14.out.below hx))).append (RoomsL.one (RoomN.of_own (B_14.out.below hx)))
  have hbound : ∀ j : Nat, ((([ab] ++ [ab])[j]?).getD []).length ≤ 8388608 := fun j => by
    cases hj : ([ab] ++ [ab])[j]? with
    | none => simp
    | some l =>
      have hm := List.mem_of_getElem? hj
      simp only [List.mem_append, List.mem_singleton] at hm
      show l.length ≤ 8388608
      rcases hm with rfl | rfl <;> omega
  have HAP := Lib.hid (apartBytes_any v15 ([sa] ++ [sb]) _ w15 R_15.out rooms.of d2 (by simp) hbound)
  have HLOW := Lib.hid low4
  clear ra rb d2 low4 rooms hbound
  have UB_15 := Lib.hid (UB_14.out.below hx)
  have VI_15 := Lib.hid (lent_below VI_14.out hx)
  have GQ_15 := Lib.hid (GQ_14.out.below hx)
  have VB_15 := Lib.hid (VB_14.out.below hx)
  have V_15 := Lib.hid (V_14.out.below hx)
  have GX_15 := Lib.hid (GX_14.out.below hx)
  have A_15 := Lib.hid (A_14.out.below hx)
  have C_15 := Lib.hid (C_14.out.below hx)
  have B_15 := Lib.hid (B_14.out.below hx)
  have D_15 := Lib.hid (D_14.out.below hx)
  have GD_15 := Lib.hid (GD_14.out.below hx)
  have H_15 := Lib.hid (H_14.out.below hx)
  have GH_15 := Lib.hid (GH_14.out.below hx)
  have E_15 := Lib.hid (E_14.out.below hx)
  have GE_15 := Lib.hid (GE_14.out.below hx)
  have K_15 := Lib.hid (Agg.belowThen K_14.out (Nat.le_refl _) hx)
  have K4_15 := Lib.hid (Agg.belowThen K4_14.out (Nat.le_refl _) hx)
  have s_14_15 := hx.size
  clear hx
  refine HAP.out.mono ?_
  rintro e w16 ⟨rfl, ho16⟩
  have K4_16 := Lib.hid (only_below K4_15.out ho16 fun k h => (HLOW.out k h).1)
  have GX_16 := Lib.hid (GX_15.out.only ho16 fun h => by have := HLOW.out _ h; omega)
  have GD_16 := Lib.hid (GD_15.out.only ho16 fun h => by have := HLOW.out _ h; omega)
  have GE_16 := Lib.hid (GE_15.out.only ho16 fun h => by have := HLOW.out _ h; omega)
  have D_16 := Lib.hid ((RoomN.of_own D_15.out).only ho16 fun k hk h => by have := HLOW.out _ h; have := rd k hk; omega)
  have E_16 := Lib.hid ((RoomN.of_own E_15.out).only ho16 fun k hk h => by have := HLOW.out _ h; have := re k hk; omega)
  have GQ_16 := Lib.hid (GQ_4.out.below K4_16.out)
  have VB_16 := Lib.hid (VB_4.out.below K4_16.out)
  have V_16 := Lib.hid (V_4.out.below K4_16.out)
  have UB_16 := Lib.hid (UB_4.out.below K4_16.out)
  have VI_16 := Lib.hid (lent_below VI_4.out K4_16.out)
  have s_15_16 := ho16.size
  clear ho16
  obtain ⟨xd, hxd⟩ : ∃ x : RpE, x = ⟨(rpOut b).e, (rpOut b).ph, (rpOut b).pn, (rpOut b).ch, (rpOut b).g, sd, (rpOut b).m, HOL.out.1, HOL.out.2⟩ := ⟨_, rfl⟩
  obtain ⟨xe, hxe⟩ : ∃ x : RpE, x = ⟨(rpOut b).e, (rpOut b).ph, (rpOut b).pn, (rpOut b).ch, (rpOut b).g, se, (rpOut b).m, HOL.out.1, HOL.out.2⟩ := ⟨_, rfl⟩
  have hpd : xd.pv = sd := by rw [hxd]
  have hpe : xe.pv = se := by rw [hxe]
  have LD16 := Lib.hid (show LoadsL Tryz.prog w16 46 (some ⟨gd, 0, none⟩) (ER.val xd) by rw [hxd]; exact (RpG.of_blk GD_16.out HOL.out.1 HOL.out.2).all)
  have LE16 := Lib.hid (show LoadsL Tryz.prog w16 46 (some ⟨ge, 0, none⟩) (ER.val xe) by rw [hxe]; exact (RpG.of_blk GE_16.out HOL.out.1 HOL.out.2).all)
  clear hxd hxe GD_16 GE_16
  go_wp2_with (first | (with_reducible refine Agg.wpList_loadL LD16.out rfl _ rfl rfl ?_) | (with_reducible refine Agg.wpList_loadL LE17.out rfl _ rfl rfl ?_) | (refine Agg.wpList_slice1w (E := ER) (base := w16.heap.size) rfl _ rfl xd rfl (Nat.le_refl _) ?_; intro v17 w17 ho17 hx17; clear LD16; have LE17 := Lib.hid (LE16.out.below hx17); clear LE16; have O_17 := Lib.hid ho17; have X_17 := Lib.hid hx17; have s_16_17 := hx17.size; clear ho17 hx17) | (refine Agg.wpList_slice1w (E := ER) (base := w17.heap.size) rfl _ rfl xe rfl (Nat.le_refl _) ?_; intro v18 w18 ho18 hx18; clear LE17; have O_18 := Lib.hid ho18; have X_18 := Lib.hid hx18; have s_17_18 := hx18.size; obtain ⟨u1, hu1⟩ := own_svE O_17.out; obtain ⟨u2, hu2⟩ := own_svE O_18.out; subst hu1 hu2; clear ho18 hx18) | (refine Agg.wpList_slice2w (E := ERR) rfl _ _ rfl u1 u2 rfl rfl ?_; intro v19 w19 ho19 hx19; have R_19 := Lib.hid ho19; have X_19 := Lib.hid hx19; have s_18_19 := hx19.size; clear ho19 hx19))
  have hx1719 := Lib.hid (Agg.belowThen X_18.out (Nat.le_refl _) X_19.out)
  have hx1619 := Lib.hid (Agg.belowThen X_17.out (Nat.le_refl _) hx1719.out)
  have r1 := own_inE O_17.out
  have r2 := own_inE O_18.out
  have d2 : Dist ([sd] ++ [se]) := (dist_one sd).append (dist_one se) fun k h1 h2 => by
    have := rd k (ss_one h1); have := re k (ss_one h2); omega
  have du : Dist ([u1] ++ [u2]) := (dist_one u1).append (dist_one u2) fun k h1 h2 => by
    have := r1 k (ss_one h1); have := r2 k (ss_one h2); omega
  have lowp : ∀ k, SS ([sd] ++ [se]) k → w4.heap.size ≤ k ∧ k < w12.heap.size := fun k h => by
    rcases ss_append h with h | h
    · have := rd k (ss_one h); omega
    · have := re k (ss_one h); omega
  have lowu : ∀ k, SS ([u1] ++ [u2]) k → w16.heap.size ≤ k := fun k h => by
    rcases ss_append h with h | h
    · have := r1 k (ss_one h); omega
    · have := r2 k (ss_one h); omega
  have rooms : RoomsL E20 w19 ([sd] ++ [se]) ([(rpOut b).l] ++ [(rpOut b).l]) := (RoomsL.one (D_16.out.below hx1619.out)).append (RoomsL.one (E_16.out.below hx1619.out))
  have roomu : RoomsL ER w19 ([u1] ++ [u2]) ([[xd]] ++ [[xe]]) := (RoomsL.one (RoomN.of_own (O_17.out.below hx1719.out))).append (RoomsL.one (RoomN.of_own (O_18.out.below X_19.out)))
  have hflat : (([[xd], [xe]] : List (List RpE)).flatMap fun l => l.map RpE.pv) = [sd] ++ [se] := by simp [hpd, hpe]
  have hbound : ∀ j : Nat, ((([(rpOut b).l] ++ [(rpOut b).l])[j]?).getD []).length ≤ 8388608 := fun j => by
    have hob := HOB.out
    cases hj : ([(rpOut b).l] ++ [(rpOut b).l])[j]? with
    | none => simp
    | some l =>
      have hm := List.mem_of_getElem? hj
      simp only [List.mem_append, List.mem_singleton] at hm
      show l.length ≤ 8388608
      rcases hm with rfl | rfl <;> omega
  have hboundu : ∀ j : Nat, ((([[xd], [xe]] : List (List RpE))[j]?).getD []).length ≤ 1048576 := fun j => by
    cases hj : ([[xd], [xe]] : List (List RpE))[j]? with
    | none => simp
    | some l =>
      have hm := List.mem_of_getElem? hj
      simp only [List.mem_cons, List.not_mem_nil, or_false] at hm
      show l.length ≤ 1048576
      rcases hm with rfl | rfl <;> simp
  have HAR := Lib.hid (show Calls Tryz.prog 29 #[v19] w19 fun e w' => e = .returned (.bool true) ∧ Only (fun b => SS ([sd] ++ [se]) b ∨ SS ([u1] ++ [u2]) b) w19 w' by
    have h := apartReplies_any v19 ([u1] ++ [u2]) [[xd], [xe]] _ w19 R_19.out rfl roomu.of (by rw [hflat]; exact rooms.of) (by rw [hflat]; exact d2) du (fun k hu hp => by rw [hflat] at hp; have := lowu k hu; have := lowp k hp; omega) (by rw [hflat]; simp) (by simp) hbound hboundu
    rw [hflat] at h
    exact h)
  have HLP := Lib.hid lowp
  have HLU := Lib.hid lowu
  have K4_19 := Lib.hid (Agg.belowThen K4_16.out (Nat.le_refl _) hx1619.out)
  have GX_19 := Lib.hid (GX_16.out.below hx1619.out)
  clear r1 r2 d2 du lowp lowu rooms roomu hflat hbound hboundu rd re
  refine HAR.out.mono ?_
  rintro e w20 ⟨rfl, ho20⟩
  have K4_20 := Lib.hid (only_below K4_19.out ho20 fun k h => by rcases h with h | h; exact (HLP.out k h).1; have := HLU.out k h; omega)
  have GX_20 := Lib.hid (GX_19.out.only ho20 fun h => by rcases h with h | h; (have := HLP.out _ h; omega); (have := HLU.out _ h; omega))
  have GQ_20 := Lib.hid (GQ_4.out.below K4_20.out)
  have VB_20 := Lib.hid (VB_4.out.below K4_20.out)
  have V_20 := Lib.hid (V_4.out.below K4_20.out)
  have UB_20 := Lib.hid (UB_4.out.below K4_20.out)
  have VI_20 := Lib.hid (lent_below VI_4.out K4_20.out)
  clear ho20
  have LX20 := Lib.hid (RpG.of_blk GX_20.out hl hc)
  have LQ20 := Lib.hid (RpG.of_blk GQ_20.out hl hc)
  go_wp2_with (first | (with_reducible refine Agg.wpList_loadL LX20.out.all rfl _ rfl rfl ?_) | (with_reducible refine Agg.wpList_loadL LQ20.out.all rfl _ rfl rfl ?_))
  refine (keptRep_any e0 g0 m1 ph pn ch ub vb bs hl hc h2 _ w20 UB_20.out VB_20.out).mono ?_
  rintro e w21 ⟨rfl, hx⟩
  have K4_21 := Lib.hid (Agg.belowThen K4_20.out (Nat.le_refl _) hx)
  have V_21 := Lib.hid (V_20.out.below hx)
  have VI_21 := Lib.hid (lent_below VI_20.out hx)
  clear hx
  go_wp2_with fail
  refine (keptBytes_any vi v b h4 _ w21 VI_21.out V_21.out).mono ?_
  rintro e w22 ⟨rfl, hx⟩
  have K4_22 := Lib.hid (Agg.belowThen K4_21.out (Nat.le_refl _) hx)
  clear hx
  go_wp2_with fail
  refine (awake28_any w22).mono ?_
  rintro e w23 ⟨rfl, hx⟩
  have K4_23 := Lib.hid (Agg.belowThen K4_22.out (Nat.le_refl _) hx)
  have K_23 := Lib.hid (Agg.belowThen K_4.out (Nat.le_refl _) K4_23.out)
  clear hx
  go_wp2_with fail
  go_ret
  exact ⟨rfl, K_23.out⟩
end Go.Proofs.YtpnolgliklmnmaaGreat
