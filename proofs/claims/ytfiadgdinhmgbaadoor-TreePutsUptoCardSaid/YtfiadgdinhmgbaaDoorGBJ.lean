/- spenceref09.Open. (Several texts in one.) -/
import Derived.Test.YtfiadgdinhmgbaaDoorGBI
import Derived.Test.YtfiadgdinhmgbaaDoorGAR
import Derived.Test.YtfiadgdinhmgbaaDoorGAI
import Derived.Test.YtfiadgdinhmgbaaDoorGAE
import Derived.Test.YtfiadgdinhmgbaaDoorGAD
import Derived.Test.YtfiadgdinhmgbaaDoorGAQ
import Derived.Deep.RegionHeld
/-! spenceref08.nodes, Right. -/
namespace Go.Tr
theorem nodesL_step {l : List K} {q : Nat} {z : K} (h : l[q]? = some z) {left d al m : Nat} (hm : nodesR z.2 (left - al) d = m) (h0 : m ≠ 0) : nodesL (l.drop q) left d al = nodesL (l.drop (q + 1)) left d (al + m) := by
  obtain ⟨hlt, he⟩ := List.getElem?_eq_some_iff.1 h
  rw [List.drop_eq_getElem_cons hlt, he]
  obtain ⟨n, t⟩ := z
  have hm : nodesR t (left - al) d = m := hm
  simp [nodesL, hm, h0]
theorem nodesL_stop {l : List K} {q : Nat} {z : K} (h : l[q]? = some z) {left d al : Nat} (hm : nodesR z.2 (left - al) d = 0) : nodesL (l.drop q) left d al = 0 := by
  obtain ⟨hlt, he⟩ := List.getElem?_eq_some_iff.1 h
  rw [List.drop_eq_getElem_cons hlt, he]
  obtain ⟨n, t⟩ := z
  have hm : nodesR t (left - al) d = 0 := hm
  simp [nodesL, hm]
theorem nodesR_le (t : T) (left d : Nat) : nodesR t left d ≤ left := by
  rw [nodesR_eq]; split
  · next h => exact h.2.1
  · omega
end Go.Tr
namespace Go.Proofs.YtfiadgdinhmgbaaDoor
open Go.RowKit Pl Go.Agg Go.Tr
theorem ret_int {m : Nat} {k : Int} (h : k = (m : Int)) : Ending.returned (.int .i64 k) = Ending.returned (.int .i64 (m : Int)) := by rw [h]
set_option maxRecDepth 100000 in
set_option maxHeartbeats 8000000 in
theorem rnodes_any : ∀ (N : Nat) (t : T) (_ : count t ≤ N) (_ : msz t ≤ 1048576) (left d : Nat) (_ : left ≤ 1000) (_ : d ≤ 1000) (v : Value) (w : World) (_ : NodeAt w v t),
    Calls Tryd.prog 67 #[v, .int .i64 (left : Int), .int .i64 (d : Int)] w fun e w' => e = .returned (.int .i64 (nodesR t left d : Int)) ∧ Below w.heap.size w w' := by
  intro N
  induction N with
  | zero => intro t h; have := count_pos t; omega
  | succ N ih =>
  intro t hc hm left d hl hd v w hv
  obtain ⟨x, rfl, hx⟩ := hv
  have HV := Lib.hid (show NodeAt w (.agg (ndC x)) t from ⟨x, rfl, hx⟩)
  obtain ⟨k, b, l⟩ := t
  obtain ⟨hk, hby, ks, hsl, hkv⟩ := hx
  have hkl := hkv.len
  have hlk := fun W => kds_len hsl W
  rw [hkl] at hlk
  have hkm := kids_msz k b l
  have hl1 : l.length ≤ 1048576 := by omega
  have HM := Lib.hid (fun x (hx : x ∈ l) => show msz x.2 ≤ 1048576 by have := kid_msz (k := k) (b := b) hx; omega)
  have HC := Lib.hid (fun x (hx : x ∈ l) => show count x.2 ≤ N by have h1 := countL_mem hx; simp only [count] at hc; omega)
  have HIH := Lib.hid ih
  have HKV := Lib.hid hkv
  have HSL := Lib.hid hsl
  have HMM := Lib.hid hm
  clear ih hc hby hsl hkv hk hkl hm
  go_enter Tryd.func67, Tryd.ntmps67
  by_cases h1 : left < 1
  · have hd1 : decide ((left : Int) < 1) = true := by simp; omega
    go_wp2_with (first | (refine Agg.wpList_box rfl 26 _ rfl (ndC x) rfl ?_; intro g1 w1 hb hx hg; have HB1 := Lib.hid hb; have HX1 := Lib.hid hx; have HV1 := Lib.hid (HV.out.below hx); clear hb hx hg))
    go_ret
    exact ⟨ret_int (by rw [nodesR, if_pos (.inl h1)]; rfl), HX1.out⟩
  have hd1 : decide ((left : Int) < 1) = false := by simp; omega
  by_cases h2 : d < 1
  · have hd2 : decide ((d : Int) < 1) = true := by simp; omega
    go_wp2_with (first | (refine Agg.wpList_box rfl 26 _ rfl (ndC x) rfl ?_; intro g1 w1 hb hx hg; have HB1 := Lib.hid hb; have HX1 := Lib.hid hx; have HV1 := Lib.hid (HV.out.below hx); clear hb hx hg))
    go_ret
    exact ⟨ret_int (by rw [nodesR, if_pos (.inr (.inl h2))]; rfl), HX1.out⟩
  have hd2 : decide ((d : Int) < 1) = false := by simp; omega
  go_wp2_with (first | (refine Agg.wpList_box rfl 26 _ rfl (ndC x) rfl ?_; intro g1 w1 hb hx hg; have HB1 := Lib.hid hb; have HX1 := Lib.hid hx; have HV1 := Lib.hid (HV.out.below hx); clear hb hx hg) | (with_reducible refine Agg.wpList_loadL (NdL.of_blk HB1.out).all rfl _ rfl rfl ?_))
  refine (ralone_any _ (.mk k b l) HMM.out w1 HV1.out).mono ?_
  rintro e w2 ⟨rfl, hx⟩
  have HB2 := Lib.hid (HB1.out.below hx)
  have HX2 := Lib.hid (Agg.belowThen HX1.out (Nat.le_refl _) hx)
  clear hx
  cases ha : alone (.mk k b l) with
  | false =>
    go_wp2_with fail
    go_ret
    exact ⟨ret_int (by rw [nodesR, if_pos (.inr (.inr ha))]; rfl), HX2.out⟩
  | true =>
    have HE := Lib.hid (show nodesR (.mk k b l) left d = nodesL l left (d - 1) 1 by rw [nodesR, if_neg (by simp [ha]; omega)])
    clear ha
    go_wp2_with fail
    go_loopw [7, 8] (fun a i wr => ∃ (q al : Nat), q ≤ l.length ∧ a = .int .i64 (al : Int) ∧ i = .int .i64 (q : Int) ∧ 1 ≤ al ∧ al ≤ left ∧ nodesL l left (d - 1) 1 = nodesL (l.drop q) left (d - 1) al ∧ Blk wr g1 26 (ndC x) ∧ Below w.heap.size w wr) (fun _ i _ => l.length - (intOf i).toNat)
    case atStart => exact ⟨0, 1, by omega, rfl, rfl, by omega, by omega, rfl, HB2.out, HX2.out⟩
    case round =>
      obtain ⟨w3, rfl⟩ : ∃ y : World, y = wr := ⟨_, rfl⟩
      obtain ⟨q, al, hq, rfl, rfl, h1a, hal, hnl, hb, hx⟩ := hrel
      have HNL := Lib.hid hnl
      have HB := Lib.hid hb
      have HX := Lib.hid hx
      clear hnl hb hx
      by_cases hlt : q < l.length
      · have hlq : decide ((q : Int) < (l.length : Int)) = true := by simp; omega
        obtain ⟨z, hzk⟩ : ∃ z, l[q]? = some z := ⟨_, List.getElem?_eq_getElem hlt⟩
        obtain ⟨y, hyk, hyz, hyn⟩ := HKV.out.at_ q z hzk
        obtain ⟨p, hadr, hle9⟩ := kid_at (HSL.out.below HX.out) q y hyk
        have HND := Lib.hid hle9.node.all
        have hin := List.mem_of_getElem? hzk
        obtain ⟨m, hmm⟩ : ∃ m, nodesR z.2 (left - al) (d - 1) = m := ⟨_, rfl⟩
        have HMM2 := Lib.hid hmm
        have HZ := Lib.hid hzk
        have hml : m ≤ left - al := by rw [← hmm]; exact nodesR_le _ _ _
        have HCALL := Lib.hid (show Calls Tryd.prog 67 #[.agg (ndC y.2), .int .i64 ((left : Int) - (al : Int)), .int .i64 ((d : Int) - 1)] w3 fun e w' => e = .returned (.int .i64 (m : Int)) ∧ Below w3.heap.size w3 w' by
          have h := HIH.out z.2 (HC.out z hin) (HM.out z hin) (left - al) (d - 1) (by omega) (by omega) (.agg (ndC y.2)) w3 ⟨y.2, rfl, NodeV.below HX.out _ _ hyn⟩
          rw [hmm, show ((left - al : Nat) : Int) = (left : Int) - (al : Int) by omega, show ((d - 1 : Nat) : Int) = (d : Int) - 1 by omega] at h
          exact h)
        clear hzk hyk hyz hyn hle9 hin hmm
        go_wp2_with (first | (with_reducible refine Agg.wpList_loadL (NdL.of_blk HB.out).kids rfl _ rfl rfl ?_) | (with_reducible refine Agg.wpList_loadL HND.out rfl _ rfl rfl ?_))
        refine HCALL.out.mono ?_
        rintro e w4 ⟨rfl, hx⟩
        have HB4 := Lib.hid (HB.out.below hx)
        have HX4 := Lib.hid (Agg.belowThen HX.out (Nat.le_refl _) hx)
        clear hx hadr
        by_cases hm0 : m = 0
        · subst hm0
          go_wp2_with fail
          go_ret
          exact ⟨ret_int (by rw [HE.out, HNL.out, nodesL_stop HZ.out HMM2.out]; rfl), HX4.out⟩
        · have hm1 : decide ((m : Int) = 0) = false := decide_eq_false (by omega)
          have hm2 : ((m : Int) == 0) = false := by rw [beq_eq_false_iff_ne]; omega
          have HNX := Lib.hid (HNL.out.trans (nodesL_step HZ.out HMM2.out hm0))
          go_wp2_with fail
          go_roundw
          case rel => exact ⟨q + 1, al + m, by omega, by go_num, by go_num, by omega, by omega, HNX.out, HB4.out, HX4.out⟩
          case measure => simp [intOf]; omega
      · obtain rfl : q = l.length := by omega
        have hd9 : decide (((l.length : Nat) : Int) < ((l.length : Nat) : Int)) = false := by simp
        have HR := Lib.hid (show nodesL l left (d - 1) 1 = al by have := HNL.out; rwa [List.drop_length, nodesL] at this)
        go_wp2_with (first | (with_reducible refine Agg.wpList_loadL (NdL.of_blk HB.out).kids rfl _ rfl rfl ?_))
        go_ret
        exact ⟨ret_int (by rw [HE.out, HR.out]), HX.out⟩
set_option maxRecDepth 100000 in
set_option maxHeartbeats 8000000 in
theorem rright_any (v : Value) (t : T) (hm : msz t ≤ 1048576) (w : World) (hv : NodeAt w v t) :
    Calls Tryd.prog 36 #[v] w fun e w' => e = .returned (.bool (right t)) ∧ Below w.heap.size w w' := by
  obtain ⟨x, rfl, hx⟩ := hv
  have HV := Lib.hid (show NodeAt w (.agg (ndC x)) t from ⟨x, rfl, hx⟩)
  have HMM := Lib.hid hm
  clear hx hm
  go_enter Tryd.func36, Tryd.ntmps36
  go_wp2_with (first | (refine Agg.wpList_box rfl 26 _ rfl (ndC x) rfl ?_; intro g1 w1 hb hx hg; have HB1 := Lib.hid hb; have HX1 := Lib.hid hx; have HV1 := Lib.hid (HV.out.below hx); clear hb hx hg) | (with_reducible refine Agg.wpList_loadL (NdL.of_blk HB1.out).all rfl _ rfl rfl ?_))
  obtain ⟨m, hmm⟩ : ∃ m, nodesR t 200 8 = m := ⟨_, rfl⟩
  have HR := Lib.hid (show decide (0 < m) = right t by rw [← hmm]; exact nodesR_right t)
  refine (show Calls Tryd.prog 67 #[.agg (ndC x), .int .i64 200, .int .i64 8] w1 fun e w' => e = .returned (.int .i64 (m : Int)) ∧ Below w1.heap.size w1 w' from hmm ▸ rnodes_any (count t) t (Nat.le_refl _) HMM.out 200 8 (by omega) (by omega) _ w1 HV1.out).mono ?_
  rintro e w2 ⟨rfl, hx⟩
  have HX2 := Lib.hid (Agg.belowThen HX1.out (Nat.le_refl _) hx)
  clear hx hmm
  go_wp2_with fail
  go_ret
  exact ⟨ret_bool (by rw [← HR.out]), HX2.out⟩
end Go.Proofs.YtfiadgdinhmgbaaDoor
/-! spenceref09.text, Bytes. -/
namespace Go.Tr
open Go.Proofs.YtfiadgdinhmgbaaDoor Go.Agg
theorem kind_ok {k : Int} {b : List UInt8} {l : List K} (h : ok (.mk k b l) = true) : ∃ n : Nat, k = (n : Int) ∧ n ≤ 4 := by
  have ha : alone (.mk k b l) = true := by simp only [ok, Bool.and_eq_true] at h; exact h.1
  rcases alone_cases ha with ⟨rfl, _⟩ | ⟨_, h1, h3, _⟩
  · exact ⟨4, rfl, by omega⟩
  · exact ⟨k.toNat, by omega, by omega⟩
theorem packL_drop {l : List K} {q : Nat} {z : K} (h : l[q]? = some z) : packL (l.drop q) = encT z.1 ++ (packB z.2 ++ packL (l.drop (q + 1))) := by
  obtain ⟨hlt, he⟩ := List.getElem?_eq_some_iff.1 h
  rw [List.drop_eq_getElem_cons hlt, he]
  obtain ⟨n, t⟩ := z
  rfl
end Go.Tr
namespace Go.Proofs.YtfiadgdinhmgbaaDoor
open Go.RowKit Pl Go.Agg Go.Tr
end Go.Proofs.YtfiadgdinhmgbaaDoor
/-! copy of bytes into the middle of a block; of one-cell rows in general. -/
namespace Go.Agg
open Go.RowKit
theorem toArray_size' (l : List Value) : l.toArray.size = l.length := by simp
/-- copy of cells into the middle of a block -/
theorem run_copyMid {P : Program} {w : World} (dT sT ty elem : TypeId) (g o n dc : Nat) (a : Addr) (m sc : Nat) (cur : List Value) (t : TypeId) (cs : List Value)
    (hu : P.underlying dT = some (.slice elem)) (hs : (P.info? elem).map (·.size) = some 1) (hb : Blk w g t cur.toArray) (hn : cs.length = Nat.min m n) (hsrc : ∀ j v, cs[j]? = some v → w.cell? (a.add j) = some v)
    (hfit : o + cs.length ≤ cur.length) (h1 : ∀ v ∈ cs, v.oneCell' = true) :
    ∃ w', (Builtin.copy_ #[dT, sT] ty #[.slice (some ⟨g, o, none⟩) n dc, .slice (some a) m sc]).run P w = .ok (goInt cs.length) w' ∧ Blk w' g t (cur.take o ++ cs ++ cur.drop (o + cs.length)).toArray ∧ Only (· = g) w w' ∧ w'.heap.size = w.heap.size := by
  have hrun := run_copy_row (P := P) w dT sT ty elem g o n dc a m sc cur.toArray t cs hu hs hb hn hsrc (by simpa using hfit) h1
  refine ⟨_, hrun, ?_, ⟨rfl, rfl, rfl, by simp [World.setRow], fun k _ hk => setRow_other w g k _ hk⟩, by simp [World.setRow]⟩
  exact setRow_heap w g cur.toArray _ t (0, 0) hb
end Go.Agg
namespace Go.Proofs.YtfiadgdinhmgbaaDoor
open Go.RowKit Pl Go.Agg
theorem run_copyAt {w : World} {g o n dc : Nat} {t : TypeId} {cur : List Value} {u : Value} {l : List UInt8} (ty : TypeId) (hu : SliceOf EB w u l) (hb : Blk w g t cur.toArray) (ho : o + n ≤ cur.length) :
    ∃ w', (Builtin.copy_ #[23, 23] ty #[.slice (some ⟨g, o, none⟩) n dc, u]).run Tryd.prog w = .ok (.int .i64 ((min l.length n : Nat) : Int)) w' ∧ Blk w' g t (cur.take o ++ Lib.byteCells (l.take n) ++ cur.drop (o + min l.length n)).toArray ∧ Only (· = g) w w' ∧ w'.heap.size = w.heap.size := by
  have hund : Tryd.prog.underlying 23 = some (.slice 5) := by kernel_rfl
  have hsz : (Tryd.prog.info? 5).map (·.size) = some 1 := by kernel_rfl
  have hc : (Lib.byteCells (l.take n)).length = min l.length n := by simp [Lib.byteCells, Nat.min_comm]
  by_cases h0 : l.length = 0
  · obtain rfl : l = [] := List.length_eq_zero_iff.1 h0
    obtain ⟨p, c, hf⟩ := hu.form
    subst hf
    refine ⟨w, ?_, ?_, Only.refl _ _, rfl⟩
    · have := run_copy_none (P := Tryd.prog) w 23 23 ty 5 (some ⟨g, o, none⟩) p n dc 0 c hund hsz (by simp)
      simpa [goInt] using this
    · simpa [Lib.byteCells] using hb
  · rcases hu with ⟨_, _, _, h1⟩ | ⟨q, c, rfl, hq, hcell⟩
    · exact absurd (by simp [h1]) h0
    · rw [flat_bytes] at hcell
      obtain ⟨w', h1, h2, h3, h4⟩ := run_copyMid (P := Tryd.prog) 23 23 ty 5 g o n dc q l.length c cur t (Lib.byteCells (l.take n)) hund hsz hb (by rw [hc])
        (fun j v hj => hcell j v (by
          simp only [Lib.byteCells, List.getElem?_map, List.getElem?_take] at hj ⊢
          split at hj
          · exact hj
          · simp at hj)) (by rw [hc]; omega)
        (fun v hv => by
          simp only [Lib.byteCells, List.mem_map] at hv
          obtain ⟨b, _, rfl⟩ := hv
          rfl)
      rw [hc] at h1 h2
      exact ⟨w', h1, h2, h3, h4⟩
end Go.Proofs.YtfiadgdinhmgbaaDoor
/-! (of general use) The document's cursor, where other blocks are written. -/
namespace Go.Agg
open Go.RowKit
variable {P : Program} {α : Type} {E : Elem P α} {base : Nat} {w w' : World} {v : Value} {l : List α}
theorem Own.onlyX {S : Nat → Prop} (h : Own E base w v l) (ho : Only S w w') (hS : ∀ k, v.ownBlock = some k → ¬ S k) : Own E base w' v l := by
  obtain ⟨h1, h2⟩ := h
  refine ⟨h1, ?_⟩
  rcases h2 with h2 | ⟨g, cap, cur, e1, e2, e3, e4⟩
  · exact .inl h2
  · exact .inr ⟨g, cap, cur, e1, e2, (ho.block g (heap_lt e3) (hS g (by rw [e1]; rfl))).trans e3, e4⟩
end Go.Agg
namespace Go.Proofs.YtfiadgdinhmgbaaDoor
open Go.RowKit Pl Go.Agg
theorem wpList_copyK {ops : Array Oper} {rest : List Oper} {o : Oper} {a : Act} {w w' : World} {Q : Exit → Act → World → Prop} (hw : Region.wanted o (yielded ops a.tmps) = true) (d s : Operand)
    (ho : o.op = .call { callee := .builtin .copy, args := #[d, s], argTypes := #[23, 23] }) (x y r : Value) (hd : a.eval d = x) (hs : a.eval s = y)
    (hrun : (Builtin.copy_ #[23, 23] o.type #[x, y]).run Tryd.prog w = .ok r w') (h : wpList Tryd.prog ops Q rest (a.put o.dst r) w') : wpList Tryd.prog ops Q (o :: rest) a w := by
  refine wpList_valw hw ?_ h
  simp [execOp, ho, resolve, invoke, builtin, hd, hs, hrun]
end Go.Proofs.YtfiadgdinhmgbaaDoor
/-! spenceref09.Open. -/
namespace Go.Agg
open Go.RowKit
section
variable {P : Program} {ops : Array Oper} {o : Oper} {a : Act} {w : World} {Q : Exit → Act → World → Prop} {K : Act → World → Prop} {F : Prop}
theorem step_callW (hw : Region.wanted o (yielded ops a.tmps) = true) (f : FuncId) (xs : Array Operand) (ts : Array TypeId) (ho : o.op = .call { callee := .value (.func f), args := xs, argTypes := ts }) (vs : Array Value) (hv : xs.map a.eval = vs)
    (he : ∀ w, (callFunc f vs).run P w = .ok (.enter f vs) w) (h : Calls P f vs w fun e w' => ∃ v, e = .returned v ∧ K (a.put o.dst v) w') : if Region.wanted o (yielded ops a.tmps) = true then o.wp P a w K Q else F := by
  rw [if_pos hw]
  unfold Oper.wp
  have : (execOp a.eval o).run P w = .ok (.enter f vs) w := by
    subst hv
    have hf : a.eval (Operand.func f) = .func (.func f) #[] #[] := rfl
    simp [execOp, ho, resolve, invoke, hf, Deferred.ofValue, he]
  rw [this, Oper.upon_enter]
  refine h.mono ?_
  rintro e w' ⟨v, rfl, hk⟩
  exact hk
theorem step_valW {v : Value} {w' : World} (hw : Region.wanted o (yielded ops a.tmps) = true) (hrun : (execOp a.eval o).run P w = .ok (.value v) w') (h : K (a.put o.dst v) w') : if Region.wanted o (yielded ops a.tmps) = true then o.wp P a w K Q else F := by
  rw [if_pos hw]
  unfold Oper.wp
  rw [hrun]
  exact h
theorem exec_neqSb {x y : Operand} {t u : TypeId} {s r : List UInt8} {b : Bool} (ho : o.op = .binOp .neq t x y u) (hx : a.eval x = .string ⟨s.toArray⟩) (hy : a.eval y = .string ⟨r.toArray⟩) (hb : (!decide (s = r)) = b) : (execOp a.eval o).run P w = .ok (.value (.bool b)) w := by
  rw [← hb]; exact exec_neqS ho hx hy
end
end Go.Agg
namespace Go.Proofs.YtfiadgdinhmgbaaDoor
open Go.RowKit Pl Go.Agg Go.Tr
theorem exec_toStrB {o : Oper} {a : Act} {w : World} {x : Operand} {v : Value} {s : List UInt8} (ho : o.op = .convert 23 9 x) (hx : a.eval x = v) (hs : BytesAt w v s) : (execOp a.eval o).run Tryd.prog w = .ok (.value (.string ⟨s.toArray⟩)) w := by
  subst hx
  simp [execOp, ho, run_toStr hs]
end Go.Proofs.YtfiadgdinhmgbaaDoor
