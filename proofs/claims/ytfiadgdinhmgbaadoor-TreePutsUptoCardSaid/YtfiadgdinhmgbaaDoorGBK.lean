/- tree.Count. -/
import Derived.Test.YtfiadgdinhmgbaaDoorGBC
import Derived.Test.YtfiadgdinhmgbaaDoorGAQ
namespace Go.Tr
/-- the bytes of the first k nodes -/
def szW (L : List (List UInt8 × T)) (k : Nat) : Nat := ((L.take k).map fun z => z.2.bytes.length).sum
theorem szW_succ {L : List (List UInt8 × T)} {k : Nat} {z : List UInt8 × T} (h : L[k]? = some z) : szW L (k + 1) = szW L k + z.2.bytes.length := by
  rw [szW, szW, List.take_add_one, h]
  simp
mutual
theorem walkB_ok : ∀ (t : T) (s : List UInt8), ok t = true → ∀ z ∈ walkB s t, ok z.2 = true
  | .mk k b l, s, h, z, hz => by
    simp only [walkB, List.mem_cons] at hz
    rcases hz with rfl | hz
    · exact h
    · exact walkBL_ok l s (kids_ok h) z hz
theorem walkBL_ok : ∀ (l : List K) (s : List UInt8), okL l = true → ∀ z ∈ walkBL s l, ok z.2 = true
  | [], _, _, z, hz => by cases hz
  | (n, t) :: l, s, h, z, hz => by
    simp only [okL, Bool.and_eq_true] at h
    simp only [walkBL, List.mem_append] at hz
    rcases hz with hz | hz
    · exact walkB_ok t _ h.1 z hz
    · exact walkBL_ok l s h.2 z hz
end
theorem ok_bytes {t : T} (h : ok t = true) : t.bytes.length ≤ 2048 := by
  obtain ⟨k, b, l⟩ := t
  have ha : alone (.mk k b l) = true := by simp only [ok, Bool.and_eq_true] at h; exact h.1
  rcases alone_cases ha with ⟨_, rfl, _⟩ | ⟨_, _, _, h, _⟩
  · simp [T.bytes]
  · exact h
theorem szW_le {t : T} (h : ok t = true) : ∀ k, szW (walkB [] t) k ≤ 2048 * k := by
  intro k
  induction k with
  | zero => simp [szW]
  | succ k ih =>
    cases hz : (walkB [] t)[k]? with
    | none =>
      have hl := List.getElem?_eq_none_iff.1 hz
      have e : szW (walkB [] t) (k + 1) = szW (walkB [] t) k := by rw [szW, szW, List.take_of_length_le (by omega), List.take_of_length_le hl]
      omega
    | some z =>
      have := ok_bytes (walkB_ok t [] h z (List.mem_of_getElem? hz))
      rw [szW_succ hz]
      omega
theorem szW_all (t : T) : szW (walkB [] t) (walkB [] t).length = size t := by
  rw [szW, List.take_length, ← walk_size t []]
  have h := walkB_nodes t [] []
  have h2 := congrArg (List.map fun (x : T) => x.bytes.length) h
  rw [List.map_map, List.map_map] at h2
  exact congrArg List.sum h2
/-- tree.Count -/
def cnN (t : T) : Nat := if right t then count t else 0
def cnD (t : T) : Nat := if right t then deep t else 0
def cnS (t : T) : Nat := if right t then size t else 0
end Go.Tr
namespace Go.Agg
open Go.RowKit
theorem zip2_put (p q : Tmp) (a b : Value) (t : Array Value) : ((#[p, q] : Array Tmp).zip #[a, b]).foldl (fun t (x : Tmp × Value) => match x with | (p, v) => t.setIfInBounds p v) t = (t.setIfInBounds p a).setIfInBounds q b := by
  simp
theorem results_t2c {P : Program} {fn : Func} {p q r : Tmp} {t1 : TypeId} (h : fn.results = #[.tmp p, .tmp q, .cell r t1]) {tmps : Array Value} {w : World} {a : Addr} {u v1 v2 : Value} (hp : tmps.getD p undef = v1) (hq : tmps.getD q undef = v2) (hr : tmps.getD r undef = .pointer (some a))
    (h1 : (loadVar t1 a).run P w = .ok u w) : (results fn tmps).run P w = .ok (.tuple #[v1, v2, u]) w := by
  have hp' : tmps[p]?.getD undef = v1 := by rw [← Array.getD_eq_getD_getElem?]; exact hp
  have hq' : tmps[q]?.getD undef = v2 := by rw [← Array.getD_eq_getD_getElem?]; exact hq
  have hr' : tmps[r]?.getD undef = .pointer (some a) := by rw [← Array.getD_eq_getD_getElem?]; exact hr
  simp only [results, h]
  simp [Result.andThen, hp', hq', hr', asAddr, h1]
end Go.Agg
namespace Go.Proofs.YtfiadgdinhmgbaaDoor
open Go.RowKit Go.Shelf Pl Go.Agg Go.Tr
attribute [local go_sem] Oper.semAt_some
set_option maxRecDepth 100000 in
set_option maxHeartbeats 8000000 in
theorem count_any (v : Value) (t : T) (w : World) (hv : NodeAt w v t) :
    Calls Tryd.prog 20 #[v] w fun e w' => e = .returned (.tuple #[.int .i64 (cnN t : Int), .int .i64 (cnD t : Int), .int .i64 (cnS t : Int)]) ∧ Below w.heap.size w w' := by
  obtain ⟨x, rfl, hx⟩ := hv
  have HV := Lib.hid hx
  clear hx
  refine (callsIn_wide (n := 3)).1 ?_
  refine callsIn_of_wp_marks Tryd.func20 rfl trivial ?_ rfl
  simp only [Tryd.ntmps20, List.size_toArray, List.length_cons, List.length_nil, Nat.reduceAdd, Nat.reduceSub, Array.replicate_succ, Array.replicate_zero, List.push_toArray, List.append_toArray, List.nil_append, List.cons_append]
  gi_wp2_with (first | (refine Agg.wpListIn_box wide_all rfl 26 _ rfl (ndC x) rfl ?_; intro g1 w1 hb hx hg; have HB1 := Lib.hid hb; have HX1 := Lib.hid hx; clear hb hx hg) | (refine Agg.wpListIn_alloc1 wide_all rfl 3 rfl (.int .i64 0) (fun W => by kernel_rfl) rfl ?_; intro g4 w2 hb hx hg; have HO2 := Lib.hid hb; have HB2 := Lib.hid (HB1.out.below hx); have HX2 := Lib.hid (Agg.belowThen HX1.out (Nat.le_refl _) hx); have HG4 := Lib.hid (show w.heap.size ≤ g4 from Nat.le_trans HX1.out.size hg); clear hb hx hg) | (with_reducible refine wpListIn_loadL (NdL.of_blk HB2.out).all wide_all rfl _ rfl rfl ?_))
  refine ⟨trivial, CallsIn.mono (callsIn_wide.2 (looked_any (.agg (ndC x)) t w2 ⟨x, rfl, HV.out.below HX2.out⟩)) ?_⟩
  rintro e w3 ⟨gl, gm, rfl, hx, hlk⟩
  have HO3 := Lib.hid (HO2.out.below hx)
  have HB3 := Lib.hid (HB2.out.below hx)
  have HX3 := Lib.hid (Agg.belowThen HX2.out (Nat.le_refl _) hx)
  clear hx
  cases hr : right t with
  | false =>
    have HE := Lib.hid (show cnN t = 0 ∧ cnD t = 0 ∧ cnS t = 0 by simp [cnN, cnD, cnS, hr])
    clear hr hlk
    gi_wp2_with (first | (refine Agg.wpListIn_put1 wide_all rfl rfl 3 _ _ rfl g4 0 (.int .i64 0) rfl rfl HO3.out (by simp) rfl rfl (by kernel_rfl) #[.int .i64 0] rfl ?_; intro w4 hb ho hs he; have HO4 := Lib.hid hb; have HX4 := Lib.hid (HX3.out.trans (ho.below (B := w.heap.size) HX3.out.size (fun i hi => by subst hi; exact HG4.out))); clear hb ho hs he))
    exact ⟨_, results_t2c rfl rfl rfl rfl (run_loadVar1 (by rw [HO4.out.cell]; rfl) Tryd.underlying3 rfl), by rw [HE.out.1, HE.out.2.1, HE.out.2.2]; rfl, HX4.out⟩
  | true =>
    have HRT := Lib.hid hr
    have HK3 := Lib.hid (hlk hr)
    clear hr hlk
    gi_wp2_with (first | (with_reducible refine wpListIn_loadL (NdL.of_blk HB3.out).all wide_all rfl _ rfl rfl ?_))
    refine ⟨trivial, CallsIn.mono (callsIn_wide.2 (walk_any x w3)) ?_⟩
    rintro e w4 ⟨g3, rfl, hb3, hg3, hx⟩
    have HO4 := Lib.hid (HO3.out.below hx)
    have HN4 := Lib.hid hb3
    have HK4 := Lib.hid (HK3.out.below hx)
    have HX4 := Lib.hid (Agg.belowThen HX3.out (Nat.le_refl _) hx)
    have HZ4 := Lib.hid (show g4 < w4.heap.size ∧ gl < w4.heap.size ∧ gl ≠ g4 from ⟨HO4.out.lt, HK4.out.lt, fun e => by have h1 : w4.heap[gl]? = _ := HK4.out; have h2 : w4.heap[g4]? = _ := HO4.out; rw [e, h2] at h1; injection h1 with h1; injection h1 with _ h1; exact absurd h1 (by decide)⟩)
    clear hx hb3 hg3
    gi_wp2_with fail
    refine range_ownW (w := w4) (gf := 74) (lb := #[.pointer (some ⟨g3, 0, none⟩)]) rfl (enters_of Tryd.func74 (by kernel_rfl) rfl)
      (walk_seq (w0 := w) HX4.out g3 t (right_ok HRT.out) (right_deep HRT.out) x HV.out HN4.out (KpN w.heap.size) (fun _ _ h => h) HX4.out.size)
      (fun A B C h k => h.trans k) (fun A B hz h => KpN.below (Nat.le_trans HX4.out.size hz) h) (fun W l o o' hl h1 h2 => KpN.put (Nat.le_trans HX4.out.size hl) o' h1 h2) (fun _ => rfl)
      (fun pre W => ((Blk W g4 3 #[.int .i64 (szW (walkB [] t) pre.length : Int)] ∧ Blk W gl 76 (lkC gm (count t) (deep t))) ∧ w4.heap.size ≤ W.heap.size) ∧ Below w.heap.size w W)
      (OwnFrom.and (fun pre A B row hs hg hr => ?ownI) (ownFrom_below (Nat.le_refl _) HX4.out.size)) (fun pre A B hi hb => ?tI) ⟨⟨⟨HO4.out, HK4.out⟩, Nat.le_refl _⟩, HX4.out⟩
      (fun e a' W => ∃ g8, a' = { tmps := #[.agg (ndC x), .pointer (some ⟨g1, 0, none⟩), .int .i64 0, .int .i64 0, .pointer (some ⟨g4, 0, none⟩), .pointer (some ⟨gl, 0, none⟩), .bool true, undef, .pointer (some ⟨g8, 0, none⟩), .tuple #[.pointer (some ⟨gl, 0, none⟩), .bool true], .agg (ndC x), .tuple #[.pointer (some ⟨gl, 0, none⟩), .bool true], .pointer (some ⟨gl, 0, none⟩), .bool true, .bool true, .bool false, .agg (ndC x), .func (.func 74) #[] #[.pointer (some ⟨g3, 0, none⟩)], .string ⟨e.1.toArray⟩, .agg (ndC e.2), undef, undef, undef, undef, undef, undef, undef, undef, undef, undef, undef, undef, undef, undef], defers := [] } ∧ Blk W g8 26 (ndC e.2))
      (fun e a' _ A B row hs hg hr => ?ax) ?assign ?body ?done
    case ownI =>
      obtain ⟨⟨h1, h2⟩, hz⟩ := hs
      have hc : ∀ (k : Nat) (o : Obj), A.heap[k]? = some o → o.isCells = true → B.heap[k]? = A.heap[k]? := fun k o hk hc => grownBy_keeps_cells hg (fun r e => (hr r e).2) hk hc
      exact ⟨⟨(hc g4 _ h1 rfl).trans h1, (hc gl _ h2 rfl).trans h2⟩, Nat.le_trans hz hg.size⟩
    case ax =>
      obtain ⟨g8, h1, h2⟩ := hs
      exact ⟨g8, h1, (grownBy_keeps_cells hg (fun r e => (hr r e).2) h2 rfl).trans h2⟩
    case tI =>
      obtain ⟨⟨⟨h1, h2⟩, hz⟩, hx⟩ := hi
      exact ⟨⟨⟨h1.below hb, h2.below hb⟩, Nat.le_trans hz hb.size⟩, hx.trans (hb.mono hx.size)⟩
    case assign =>
      intro lp e W K hK
      dsimp only [encW]
      rw [zip2_put]
      simp only [List.setIfInBounds_toArray, List.set_cons_succ, List.set_cons_zero]
      gi_wp2_with (first | (refine Agg.wpListIn_newB (wide_allR _) rfl rfl rfl 26 8 19 rfl rfl rfl (by decide) (ndC ndZ) (ndC e.2) nd_zero rfl (nd_info _) (ndC_one _) rfl (by first | (simp; done) | simp [Act.put]) ?_; intro g8 W8 hb hx hg; have HB8 := Lib.hid hb; have HX8 := Lib.hid hx; clear hb hx hg))
      exact hK _ _ HX8.out ⟨g8, rfl, HB8.out⟩
    case body =>
      rintro lp pre e a' W hzW ⟨⟨⟨hb, hk⟩, hz⟩, hx⟩ ⟨g8, rfl, h8⟩ ⟨⟨zs, zt⟩, hz1, hz2, hz3⟩
      have hlt : pre.length < (walkB [] t).length := (List.getElem?_eq_some_iff.1 hz1).1
      rw [walkB_length] at hlt
      have h200 := right_countW HRT.out
      have hsl := szW_le (right_ok HRT.out) pre.length
      have hsc := szW_succ hz1
      have hbz := ok_bytes (walkB_ok t [] (right_ok HRT.out) _ (List.mem_of_getElem? hz1))
      obtain ⟨zk, zb, zl⟩ := zt
      obtain ⟨_, hby, _⟩ := hz3
      have hbz : zb.length ≤ 2048 := hbz
      have hsc : szW (walkB [] t) (pre.length + 1) = szW (walkB [] t) pre.length + zb.length := hsc
      have hlb := fun W => bytes_len hby W
      have h84 : g8 ≠ g4 := fun e => by have h1 : W.heap[g8]? = _ := h8; have h2 : W.heap[g4]? = _ := hb; rw [e, h2] at h1; injection h1 with h1; injection h1 with _ h1; exact absurd h1 (by decide)
      obtain ⟨S, hS⟩ : ∃ S, szW (walkB [] t) pre.length = S := ⟨_, rfl⟩
      rw [hS] at hb hsl hsc
      have HSC := Lib.hid hsc
      have HB := Lib.hid hb
      have HK := Lib.hid hk
      have H8 := Lib.hid h8
      have HX := Lib.hid hx
      have HZ := Lib.hid hz
      have HLI := Lib.hid (show LoadsL Tryd.prog W 3 (some ⟨g4, 0, none⟩) (.int .i64 (S : Int)) from hb.one (P := Tryd.prog) 0 rfl Tryd.underlying3 rfl)
      have HAD := Lib.hid (show S + zb.length ≤ 9223372036854775807 by omega)
      clear hb hk h8 hx hz hz1 hz2 hby hsc hS h84
      gi_wp2_with (first | (with_reducible refine wpListIn_loadL HLI.out (wide_allR _) rfl _ rfl rfl ?_) | (with_reducible refine wpListIn_loadL (NdL.of_blk H8.out).bytes (wide_allR _) rfl _ rfl rfl ?_) | (refine Agg.wpListIn_valR (wide_allR _) rfl rfl (exec_addI (m := S) (n := zb.length) HAD.out rfl rfl rfl) ?_) | (refine Agg.wpListIn_put1 (wide_allR _) rfl rfl 3 _ _ rfl g4 0 (.int .i64 ((S + zb.length : Nat) : Int)) rfl rfl HB.out (by simp) rfl rfl (by kernel_rfl) #[.int .i64 ((S + zb.length : Nat) : Int)] rfl ?_; intro W4 hb ho hs he; have HB4 := Lib.hid hb; have HOn := Lib.hid ho; have HE4 := Lib.hid he; have HS4 := Lib.hid hs; clear hb ho hs he))
      have hlow : Below w.heap.size W W4 := HOn.out.below (B := w.heap.size) HX.out.size (fun i hi => by subst hi; exact HG4.out)
      refine ⟨by rw [HE4.out]; exact (KeepsOthers.setCell _ _ _).from _, ⟨hlow, fun g ty cs fr ht hg => ?_⟩, ⟨⟨?_, Agg.Blk.keepO HK.out HOn.out (fun e => HZ4.out.2.2 e)⟩, by rw [HS4.out]; exact HZ.out⟩, HX.out.trans hlow⟩
      · refine (HOn.out.block g (heap_lt hg) ?_).trans hg
        rintro rfl
        have h4 : W.heap[g]? = some (.cells #[.int .i64 (S : Int)] 3 (0, 0)) := HB.out
        rw [hg] at h4
        injection h4 with h4
        injection h4 with _ h5
        rcases ht with rfl | rfl <;> exact absurd h5 (by decide)
      · rw [List.length_append, List.length_singleton, HSC.out]
        exact HB4.out
    case done =>
      rintro D es W hD hS ⟨⟨⟨hb, hk⟩, hz⟩, hx⟩ hKD
      have HE := Lib.hid (show count t = cnN t ∧ deep t = cnD t ∧ size t = cnS t by simp [cnN, cnD, cnS, HRT.out])
      rw [hS, szW_all] at hb
      have HB := Lib.hid hb
      have HK := Lib.hid hk
      have HX := Lib.hid hx
      have HZ := Lib.hid hz
      have HKD := Lib.hid hKD
      have HND := Lib.hid (show g4 ≠ D ∧ w.heap.size ≤ D from ⟨by have := HZ4.out.1; omega, Nat.le_trans HX4.out.size hD⟩)
      clear hb hk hx hz hKD
      gi_wp2_with fail
      refine wpIn_wide.2 ?_
      refine Agg.wp_cutR (fun a0 a' w' => Blk w' g4 3 #[.int .i64 (size t : Int)] ∧ Below w.heap.size w w' ∧ w'.heap[D]? = some (.deferred (some [])) ∧ ExPut [25, 26, 27, 28, 29, 30, 31, 32, 33] ((a0.put (some 2) (.int .i64 (count t : Int))).put (some 3) (.int .i64 (deep t : Int))) a') ?_ ?_
      · try simp only [Act.put, List.setIfInBounds_toArray, List.set_cons_succ, List.set_cons_zero]
        obtain ⟨wa, hwa⟩ : ∃ X, X = W.drew := ⟨_, rfl⟩
        have hda : Below W.heap.size W wa := by rw [hwa]; exact (Below.refl _ _).drew
        have HB_ := Lib.hid (HB.out.below hda)
        have HK_ := Lib.hid (HK.out.below hda)
        have HX_ := Lib.hid (Agg.belowThen HX.out (Nat.le_refl _) hda)
        have HD_ := Lib.hid ((hda.block D (heap_lt HKD.out)).trans HKD.out)
        refine wp_region_held_drew (S := fun W => Blk W g4 3 #[.int .i64 (size t : Int)] ∧ Blk W gl 76 (lkC gm (count t) (deep t))) (by kernel_rfl) (by rw [← hwa]; exact ⟨HB_.out, HK_.out⟩) (fun hHeld => ?_)
        rw [← hwa] at hHeld ⊢
        clear hwa hda
        refine Agg.held_take 0 (.pointer (some ⟨gl, 0, none⟩)) rfl (by kernel_rfl) (fun _ _ _ h => h) rfl (fun W _ => by first | kernel_rfl | rfl | simp [execOp]) (by assumption) ?_
        try simp only [Act.put, List.setIfInBounds_toArray, List.set_cons_succ, List.set_cons_zero]
        refine Agg.held_take 1 (.pointer (some ⟨gl, 0, none⟩)) rfl (by kernel_rfl) (fun _ _ _ h => h) rfl (fun W _ => by first | kernel_rfl | rfl | simp [execOp]) (by assumption) ?_
        try simp only [Act.put, List.setIfInBounds_toArray, List.set_cons_succ, List.set_cons_zero]
        refine Agg.held_take 2 (.pointer (some ⟨gl, 1, none⟩)) rfl (by kernel_rfl) (fun _ _ _ h => h) rfl (fun W _ => by first | kernel_rfl | rfl | simp [execOp]) (by assumption) ?_
        try simp only [Act.put, List.setIfInBounds_toArray, List.set_cons_succ, List.set_cons_zero]
        refine Agg.held_take 3 (.int .i64 (count t : Int)) rfl (by kernel_rfl) (fun _ _ _ h => h) rfl (fun W hS => exec_loadB rfl rfl (LkL.of_blk hS.2).nodes.now) (by assumption) ?_
        try simp only [Act.put, List.setIfInBounds_toArray, List.set_cons_succ, List.set_cons_zero]
        refine Agg.held_take 4 (.pointer (some ⟨gl, 0, none⟩)) rfl (by kernel_rfl) (fun _ _ _ h => h) rfl (fun W _ => by first | kernel_rfl | rfl | simp [execOp]) (by assumption) ?_
        try simp only [Act.put, List.setIfInBounds_toArray, List.set_cons_succ, List.set_cons_zero]
        refine Agg.held_take 5 (.pointer (some ⟨gl, 0, none⟩)) rfl (by kernel_rfl) (fun _ _ _ h => h) rfl (fun W _ => by first | kernel_rfl | rfl | simp [execOp]) (by assumption) ?_
        try simp only [Act.put, List.setIfInBounds_toArray, List.set_cons_succ, List.set_cons_zero]
        refine Agg.held_take 6 (.pointer (some ⟨gl, 2, none⟩)) rfl (by kernel_rfl) (fun _ _ _ h => h) rfl (fun W _ => by first | kernel_rfl | rfl | simp [execOp]) (by assumption) ?_
        try simp only [Act.put, List.setIfInBounds_toArray, List.set_cons_succ, List.set_cons_zero]
        refine Agg.held_take 7 (.int .i64 (deep t : Int)) rfl (by kernel_rfl) (fun _ _ _ h => h) rfl (fun W hS => exec_loadB rfl rfl (LkL.of_blk hS.2).deep.now) (by assumption) ?_
        try simp only [Act.put, List.setIfInBounds_toArray, List.set_cons_succ, List.set_cons_zero]
        refine Agg.held_take 8 (.int .i64 (size t : Int)) rfl (by kernel_rfl) (fun _ _ _ h => h) rfl (fun W hS => exec_loadB rfl rfl (hS.1.one (P := Tryd.prog) (ty := 3) 0 rfl Tryd.underlying3 rfl).now) (by assumption) ?_
        try simp only [Act.put, List.setIfInBounds_toArray, List.set_cons_succ, List.set_cons_zero]
        refine Agg.held_take 9 (.int .i64 (count t : Int)) rfl (by kernel_rfl) (fun _ _ _ h => h) rfl (fun W _ => by first | kernel_rfl | rfl | simp [execOp]) (by assumption) ?_
        try simp only [Act.put, List.setIfInBounds_toArray, List.set_cons_succ, List.set_cons_zero]
        refine Agg.held_take 10 (.int .i64 (deep t : Int)) rfl (by kernel_rfl) (fun _ _ _ h => h) rfl (fun W _ => by first | kernel_rfl | rfl | simp [execOp]) (by assumption) ?_
        try simp only [Act.put, List.setIfInBounds_toArray, List.set_cons_succ, List.set_cons_zero]
        refine Agg.held_ready [11] (by kernel_rfl) (by simp) ?_
        refine Agg.held_cons rfl ?_ ?_
        · obtain ⟨wa_11, hrun, hbf, hof⟩ := Agg.Blk.run_one (P := Tryd.prog) (ty := 3) HB_.out 0 (by simp) (.int .i64 (size t : Int)) rfl rfl (by kernel_rfl) #[.int .i64 (size t : Int)] rfl
          refine step_store rfl rfl 3 _ _ rfl (.pointer (some ⟨g4, 0, none⟩)) (.int .i64 (size t : Int)) rfl rfl hrun ?_
          have HB_11 := Lib.hid hbf
          have HK_11 := Lib.hid (Agg.Blk.keepO HK_.out hof (fun e => HZ4.out.2.2 e))
          have HX_11 := Lib.hid (HX_.out.trans (hof.below (B := w.heap.size) HX_.out.size (fun i hi => by subst hi; exact HG4.out)))
          have HD_11 := Lib.hid ((hof.block D (heap_lt HD_.out) (fun e => HND.out.1 e.symm)).trans HD_.out)
          clear hrun hbf hof
          refine ⟨⟨HB_11.out, HK_11.out⟩, ?_⟩
          try simp only [Act.put, List.setIfInBounds_toArray, List.set_cons_succ, List.set_cons_zero]
          refine Agg.held_end (by kernel_rfl) ?_
          simp only [Agg.ExPut, Act.put, List.setIfInBounds_toArray, List.set_cons_succ, List.set_cons_zero]
          exact ⟨HB_11.out, HX_11.out, HD_11.out, _, _, _, _, _, _, _, _, _, rfl⟩
        exact AllReadyH.nil
      · rintro a' wb ⟨hb, hx, hd, hex⟩
        simp only [Agg.ExPut, Act.put, List.setIfInBounds_toArray, List.set_cons_succ, List.set_cons_zero] at hex
        obtain ⟨y25, y26, y27, y28, y29, y30, y31, y32, y33, rfl⟩ := hex
        gi_wp2_with fail
        refine ⟨by simp, .inl ⟨_, _, rfl, run_takeDeferred hd, ?_⟩⟩
        have hbP : Blk (wb.putObj D (.deferred none)) g4 3 #[.int .i64 (size t : Int)] := (World.putObj_heap_other HND.out.1).trans hb
        refine ⟨_, results_t2c rfl rfl rfl rfl (run_loadVar1 (by rw [hbP.cell]; rfl) Tryd.underlying3 rfl), ?_, hx.trans (below_putObj HND.out.2 _)⟩
        rw [← HE.out.1, ← HE.out.2.1, ← HE.out.2.2]
        rfl
end Go.Proofs.YtfiadgdinhmgbaaDoor
