/- spencelaw28.WireCuts. -/
import Derived.Test.YtpnolgliklmnmaaWake3
import Derived.Deep.RegionLaw
namespace Go.Agg
open Go.RowKit
section
variable {P : Program} {ops : Array Oper} {rest : List Oper} {o : Oper} {a : Act} {w : World} {Q : Exit → Act → World → Prop} {α : Type} {E : Elem P α} {v : Value} {l : List α} {base : Nat}
theorem wpList_appendW (hw : Region.wanted o (yielded ops a.tmps) = true) (s x : Operand) (ho : o.op = .call { callee := .builtin .append, args := #[s, x], argTypes := #[E.st, E.st] }) (vx : Value) (hs : a.eval s = v) (hx : a.eval x = vx) (m : List α)
    (hown : Own E base w v l) (hm : SliceOf E w vx m) (h63 : l.length + m.length ≤ 1099511627776 / 8) (hby : E.bytes ≤ 1000) (hbase : base ≤ w.heap.size)
    (h : ∀ v' w', Own E base w' v' (l ++ m) → Pushed E base w w' v → wpList P ops Q rest (a.put o.dst v') w') : wpList P ops Q (o :: rest) a w := by
  obtain ⟨v', w', hrun, h2, h3, _, _⟩ := run_append (ty := o.type) hown _ m hm h63 hby hbase
  refine wpList_valw hw (v := v') (w' := w') ?_ (h v' w' h2 (pushed_of hown h3))
  simp [execOp, ho, resolve, invoke, builtin, hs, hx, hrun]
theorem Own.empty (E : Elem P α) {w : World} {g : Nat} (hb : base ≤ g) (h : w.heap[g]? = some (.cells #[] E.ty)) : Own E base w (.slice (some ⟨g, 0, none⟩) 0 0) [] :=
  ⟨by simp [Elem.flat], .inr ⟨g, 0, #[], rfl, hb, h, Nat.le_refl _, Nat.zero_le _, by simp, by simp [Elem.flat]⟩⟩
end
end Go.Agg
namespace Go.Proofs.Ytpnolgliklmnmaa
open Go.RowKit Pl Go.Agg
theorem run_low (p : Option Addr) (n c k : Nat) (hk : k ≤ n) (W : World) : (Instr.sliceAt 23 (.slice p n c) (some (.int .i64 (k : Int))) none none).run Try.prog W = .ok (.slice (if c = k then p else p.map (·.add k)) (n - k) (c - k)) W := by
  have hu : Try.prog.underlying 23 = some (.slice 5) := by kernel_rfl
  simp [Instr.sliceAt, Instr.slice, Instr.sliceBounds, Instr.sliceBound, run_underlying hu, Sem.run_bind, asIntOf]
  intro h
  omega
theorem sliceOf_dropped {w : World} {p : Option Addr} {c : Nat} {l : List UInt8} (h : BytesAt w (.slice p l.length c) l) (hc : l.length ≤ c) (k : Nat) (hk : k ≤ l.length) :
    BytesAt w (.slice (if c = k then p else p.map (·.add k)) (l.length - k) (c - k)) (l.drop k) := by
  rcases h with ⟨q, d, e, rfl⟩ | ⟨q, d, e, hq, hcell⟩
  · simp only [List.length_nil, Nat.le_zero_eq] at hk
    subst hk
    exact SliceOf.nil _ _ _
  · simp only [Value.slice.injEq] at e
    obtain ⟨rfl, _, rfl⟩ := e
    by_cases hck : c = k
    · rw [if_pos hck, List.drop_eq_nil_of_le (by omega), show l.length - k = 0 by omega]
      exact SliceOf.nil _ _ _
    · rw [if_neg hck]
      refine .inr ⟨q.add k, c - k, by simp, by rw [add_block]; exact hq, fun j u hj => ?_⟩
      have e : EB.flat l = EB.flat (l.take k) ++ EB.flat (l.drop k) := by rw [← Elem.flat_append, List.take_append_drop]
      have hlen : (EB.flat (l.take k)).length = k := by rw [Elem.flat_length, show EB.n = 1 from rfl, List.length_take]; omega
      have := hcell (k + j) u (by rw [e, List.getElem?_append_right (by omega), hlen, show k + j - k = j by omega]; exact hj)
      rwa [← add_add] at this
theorem bytesSz_mem {ls : List (List UInt8)} {l : List UInt8} (h : l ∈ ls) : l.length ≤ bytesSz ls := by
  induction ls with
  | nil => cases h
  | cons x t ih =>
    simp only [bytesSz, List.map_cons, List.sum_cons] at ih ⊢
    rcases List.mem_cons.1 h with rfl | h
    · omega
    · have := ih h; omega
theorem bytesSz_len (ls : List (List UInt8)) : ls.length ≤ bytesSz ls := by
  induction ls with
  | nil => simp
  | cons x t ih => simp only [bytesSz, List.map_cons, List.sum_cons, List.length_cons] at ih ⊢; omega
theorem framed_sz {ls : List (List UInt8)} (h : ∀ l ∈ ls, l.length ≤ 65536) : (framed ls).length ≤ 6 * bytesSz ls := by
  induction ls with
  | nil => simp [framed]
  | cons x t ih =>
    have h1 := encN_len (n := x.length) (by have := h x (by simp); omega)
    have h2 := ih fun l hl => h l (by simp [hl])
    simp only [framed, bytesSz, List.map_cons, List.sum_cons, List.flatMap_cons, List.length_append] at h2 ⊢
    omega
/-- what Frames answers, in one form -/
def FO (base : Nat) (w : World) (lv rv : Value) (c : Nat) (b : List UInt8) : Prop :=
  (frames b = none ∧ c = 4 ∧ lv = .slice none 0 0 ∧ rv = .slice none 0 0) ∨
  ∃ vs ls r, frames b = some (ls, r) ∧ c = 0 ∧ Own EBB base w lv vs ∧ RowsOwn base w vs ls ∧ Rest base w rv r
theorem FramesOut.form {base : Nat} {w : World} {e : Ending} {b : List UInt8} (h : FramesOut base w e b) : ∃ lv rv c, e = .returned (.tuple #[lv, rv, .int .i64 ((c : Nat) : Int)]) ∧ FO base w lv rv c b := by
  rcases h with ⟨h, rfl⟩ | ⟨lv, rv, vs, ls, r, hf, rfl, h1, h2, h3⟩
  · exact ⟨_, _, 4, rfl, .inl ⟨h, rfl, rfl, rfl⟩⟩
  · exact ⟨_, _, 0, rfl, .inr ⟨vs, ls, r, hf, rfl, h1, h2, h3⟩⟩
theorem FO.below {base : Nat} {w w' : World} {lv rv : Value} {c : Nat} {b : List UInt8} (h : FO base w lv rv c b) (hb : Below w.heap.size w w') : FO base w' lv rv c b := by
  rcases h with h | ⟨vs, ls, r, hf, hc, h1, h2, h3⟩
  · exact .inl h
  · exact .inr ⟨vs, ls, r, hf, hc, h1.below hb, h2.below hb, h3.below hb⟩
theorem FO.lt {base : Nat} {w : World} {lv rv : Value} {c : Nat} {b : List UInt8} (h : FO base w lv rv c b) : ∀ k, lv.ownBlock = some k → k < w.heap.size := fun k hk => by
  rcases h with ⟨_, _, rfl, _⟩ | ⟨vs, ls, r, _, _, h1, _⟩
  · simp [Value.ownBlock] at hk
  · obtain ⟨_, cur, hc⟩ := h1.block k hk
    exact Agg.heap_lt hc
theorem RowsIn.append {w : World} {vs us : List SV} {ls ms : List (List UInt8)} (h : RowsIn w vs ls) (k : RowsIn w us ms) : RowsIn w (vs ++ us) (ls ++ ms) := by
  have h1 := h.len
  refine ⟨by simp [h.len, k.len], fun i s l hs hl => ?_⟩
  by_cases hi : i < vs.length
  · rw [List.getElem?_append_left hi] at hs
    rw [List.getElem?_append_left (by omega)] at hl
    exact h.row i s l hs hl
  · rw [List.getElem?_append_right (by omega)] at hs hl
    rw [show i - ls.length = i - vs.length by omega] at hl
    exact k.row _ s l hs hl
theorem RowsOwn.pushedB {base B : Nat} {w w' : World} {vs : List SV} {ls : List (List UInt8)} {u : Value} (h : RowsOwn base w vs ls) (hp : Pushed EBB B w w' u) : RowsOwn base w' vs ls := ⟨h.len, fun k s l h1 h2 => (h.row k s l h1 h2).keepT fun g cur fr hg => hp.blk g _ _ _ (by decide) hg⟩
theorem frames_rest {n : Nat} : ∀ {b : List UInt8} {ls : List (List UInt8)} {r : List UInt8}, b.length ≤ n → frames b = some (ls, r) → bytesSz ls + r.length ≤ b.length := by
  induction n with
  | zero =>
    intro b ls r hb h
    obtain rfl : b = [] := List.length_eq_zero_iff.1 (by omega)
    have h0 : frames [] = some ([], []) := frames_end (b := []) (by decide) (.inl (by decide))
    rw [h0] at h
    obtain ⟨rfl, rfl⟩ : [] = ls ∧ [] = r := by simpa using h
    simp [bytesSz]
  | succ n ih =>
    intro b ls r hb h
    by_cases h1 : (beg b).1 < 0
    · rw [frames_wrong h1] at h; cases h
    · by_cases h2 : (beg b).1 = 0 ∨ b.length < (beg b).1.toNat + (beg b).2
      · rw [frames_end h1 h2] at h
        obtain ⟨rfl, rfl⟩ : [] = ls ∧ b = r := by simpa using h
        simp [bytesSz]
      · rw [frames_step h1 h2] at h
        cases hf : frames (b.drop ((beg b).1.toNat + (beg b).2)) with
        | none => rw [hf] at h; cases h
        | some q =>
          rw [hf] at h
          obtain ⟨rfl, rfl⟩ : ((b.drop (beg b).1.toNat).take (beg b).2 :: q.1) = ls ∧ q.2 = r := by simpa using h
          have := ih (b := b.drop ((beg b).1.toNat + (beg b).2)) (ls := q.1) (r := q.2) (by simp; omega) hf
          simp only [bytesSz, List.map_cons, List.sum_cons, List.length_drop, List.length_take] at this ⊢
          omega
set_option maxRecDepth 100000 in
set_option maxHeartbeats 4000000 in
theorem cuts_any (vl vb : Value) (vs : List SV) (ls : List (List UInt8)) (b : List UInt8) (cut : Int) (w : World) (hl : BBAt w vl vs) (hr : RowsIn w vs ls) (hb : BytesAt w vb b) (hcap : ∀ p n c, vb = .slice p n c → n ≤ c)
    (hll : ls.length ≤ 1048576) (hlz : bytesSz ls ≤ 4194304) (hbl : b.length ≤ 1048576) :
    Calls Try.prog 4 #[vl, vb, .int .i64 cut] w fun e w' => e = .returned (.bool true) ∧ Below w.heap.size w w' := by
  have hlb := fun W => bytes_len hb W
  have HL := Lib.hid hl
  have HR := Lib.hid hr
  have HB := Lib.hid hb
  obtain ⟨pb, cb, rfl⟩ := hb.form
  have hcapb := hcap pb b.length cb rfl
  have hgo := bytesGo_le 6000 ls 0
  clear hl hr hb hcap
  go_enter Try.func4, Try.ntmps4
  go_wp2_with fail
  refine (awake28_any w).mono ?_
  rintro e w1 ⟨rfl, hx1⟩
  have HL1 := Lib.hid (HL.out.below hx1)
  have HR1 := Lib.hid (HR.out.below hx1)
  have HB1 := Lib.hid (HB.out.below hx1)
  have HX1 := Lib.hid hx1
  clear hx1
  go_wp2_with fail
  refine (bytesOf_any vl vs ls 6000 (by omega) (by omega) (by omega) w1 HL1.out HR1.out).mono ?_
  rintro e w2 ⟨rfl, rfl⟩
  obtain ⟨n, hn⟩ : ∃ n, bytesGo 6000 0 ls = n := ⟨_, rfl⟩
  rw [hn] at hgo ⊢
  by_cases hbig : n ≤ 6000 ∧ b.length ≤ 6000
  · obtain ⟨hn6, hb6⟩ := hbig
    have hI1 : ¬ (6000 : Int) < (n : Int) := by omega
    have hI2 : ¬ (6000 : Int) < (b.length : Int) := by omega
    have hsz := bytesGo_all 6000 ls 0 (by omega)
    have hall : ∀ l ∈ ls, l.length ≤ 65536 := fun l h => by have := bytesSz_mem h; omega
    have hall2 : ∀ l ∈ ls, l.length ≤ 1048576 := fun l h => by have := bytesSz_mem h; omega
    have hfz := framed_sz hall
    have HALL := Lib.hid hall
    have HALL2 := Lib.hid hall2
    clear hn hgo hall hall2
    go_wp2_with fail
    refine (frame_any vl vs ls _ HL1.out HR1.out HALL.out (by omega) hll).mono ?_
    rintro e w3 ⟨v3, rfl, ho3, hx3⟩
    have HS3 := Lib.hid ho3.slice
    have HL3 := Lib.hid (HL1.out.below hx3)
    have HR3 := Lib.hid (HR1.out.below hx3)
    have HB3 := Lib.hid (HB1.out.below hx3)
    have HX3 := Lib.hid (Agg.belowThen HX1.out (Nat.le_refl _) hx3)
    clear ho3 hx3
    go_wp2_with fail
    refine (frames_any v3 (framed ls) w3 (by omega) HS3.out).mono ?_
    rintro e w4 ⟨hout, hx4⟩
    rcases hout with ⟨h, _⟩ | ⟨lv4, rv4, vs4, ls4, r4, hf4, rfl, hol4, hro4, hre4⟩
    · rw [frames_framed ls HALL.out] at h; cases h
    rw [frames_framed ls HALL.out] at hf4
    obtain ⟨rfl, rfl⟩ : ls = ls4 ∧ [] = r4 := by simpa using hf4
    have hl0 : ∀ W, (Builtin.len_ #[23] 3 #[rv4]).run Try.prog W = .ok (.int .i64 0) W := fun W => bytes_len hre4.slice W
    have HOL4 := Lib.hid hol4.slice
    have HRO4 := Lib.hid hro4.rows
    have HL4 := Lib.hid (HL3.out.below hx4)
    have HR4 := Lib.hid (HR3.out.below hx4)
    have HB4 := Lib.hid (HB3.out.below hx4)
    have HX4 := Lib.hid (Agg.belowThen HX3.out (Nat.le_refl _) hx4)
    clear hf4 hol4 hro4 hre4 hx4
    go_wp2_with fail
    refine (sameRows_any lv4 vl vs4 vs ls ls hll hll HALL2.out HALL2.out w4 HOL4.out HL4.out HRO4.out HR4.out).mono ?_
    rintro e w5 ⟨rfl, hx5⟩
    rw [show decide (ls = ls) = true by simp]
    have HB5 := Lib.hid (HB4.out.below hx5)
    have HX5 := Lib.hid (Agg.belowThen HX4.out (Nat.le_refl _) hx5)
    clear hx5
    have hpk := pick_any cut (b.length + 1) (by omega) (by omega) w5
    rw [show ((b.length + 1 : Nat) : Int) = (b.length : Int) + 1 by omega] at hpk
    have HPK := Lib.hid hpk
    clear hpk
    go_wp2_with fail
    refine HPK.out.mono ?_
    rintro e w6 ⟨⟨k, hk, rfl⟩, rfl⟩
    have hkb : k ≤ b.length := by omega
    go_wp2_with fail
    refine (frames_any (.slice pb b.length cb) b _ (by omega) HB5.out).mono ?_
    rintro e w7 ⟨hout, hx7⟩
    obtain ⟨lv7, rv7, c7, rfl, hfo7⟩ := hout.form
    have HFO7 := Lib.hid hfo7
    have HK7 := Lib.hid (hfo7.lt)
    have HB7 := Lib.hid (HB5.out.below hx7)
    have HX7 := Lib.hid (Agg.belowThen HX5.out (Nat.le_refl _) hx7)
    have hsl : BytesAt w7 (.slice pb k cb) (b.take k) := sliceOf_taken HB7.out k hkb
    have HSL := Lib.hid hsl
    have hkc : k ≤ cb := by omega
    clear hout hfo7 hx7 hsl
    go_wp2_with fail
    refine (frames_any (.slice pb k cb) (b.take k) w7 (by simp; omega) HSL.out).mono ?_
    rintro e w8 ⟨hout, hx8⟩
    obtain ⟨lv8, rv8, c8, rfl, hfo8⟩ := hout.form
    have HFO8 := Lib.hid hfo8
    have HFO78 := Lib.hid (HFO7.out.below hx8)
    have HB8 := Lib.hid (HB7.out.below hx8)
    have HX8 := Lib.hid (Agg.belowThen HX7.out (Nat.le_refl _) hx8)
    have h78 := hx8.size
    have H2 := Lib.hid (frames_two b k)
    clear hout hfo8 hx8
    have hn23 : ∀ W, (Builtin.len_ #[23] 3 #[.slice none 0 0]).run Try.prog W = .ok (.int .i64 0) W := fun W => bytes_len (SliceOf.nil (E := EB) w none 0) W
    have hn22 : ∀ W, (Builtin.len_ #[22] 3 #[.slice none 0 0]).run Try.prog W = .ok (.int .i64 0) W := fun W => bb_len (SliceOf.nil (E := EBB) w none 0) W
    have hfo8 := HFO8.out
    rcases hfo8 with ⟨hf8, rfl, rfl, rfl⟩ | ⟨vs8, f1, s1, hf8, rfl, hol8, hro8, hre8⟩
    · have hfb : frames b = none := by rw [H2.out, hf8]; rfl
      have hfo7 := HFO78.out
      rcases hfo7 with ⟨_, rfl, rfl, rfl⟩ | ⟨_, _, _, h, _⟩
      · clear hf8 hfb
        go_wp2_with fail
        go_ret
        exact ⟨rfl, HX8.out⟩
      · rw [hfb] at h; cases h
    · have HF8 := Lib.hid hf8
      have hs1 := frames_rest (Nat.le_refl _) hf8
      have HOL8 := Lib.hid hol8
      have HRO8 := Lib.hid hro8
      have HRE8 := Lib.hid hre8
      clear hf8 hol8 hro8 hre8
      have hsv := run_low pb b.length cb k hkb
      have hsx := sliceOf_dropped HB8.out hcapb k hkb
      obtain ⟨vx, hvx⟩ : ∃ v, v = Value.slice (if cb = k then pb else pb.map (·.add k)) (b.length - k) (cb - k) := ⟨_, rfl⟩
      rw [← hvx] at hsx
      simp only [← hvx] at hsv
      have HSX := Lib.hid hsx
      clear hvx hsx HB HB1 HB3 HB4 HB5 HB7 HSL HB8
      generalize Value.slice pb b.length cb = vbx at *
      have hx9 : Below w8.heap.size w8 (w8.drew.alloc (.cells #[] 5)) := ((Below.refl w8.heap.size w8).drew).alloc (Nat.le_refl _) _
      have HE9 : Hid (Own EB w8.heap.size (w8.drew.alloc (.cells #[] 5)) (.slice (some ⟨w8.heap.size, 0, none⟩) 0 0) []) := Lib.hid (Own.empty EB (Nat.le_refl _) (heap_alloc_new w8.drew _))
      have HRE9 := Lib.hid (HRE8.out.slice.below hx9)
      have HX9 := Lib.hid hx9
      have h63 : ([] : List UInt8).length + s1.length ≤ 1099511627776 / 8 := by simp only [List.length_take] at hs1; simp; omega
      have h63b : ([] ++ s1).length + (b.drop k).length ≤ 1099511627776 / 8 := by simp only [List.length_take] at hs1; simp; omega
      have hbase9 := hx9.size
      have hl12 : (s1 ++ b.drop k).length ≤ 16777216 := by simp only [List.length_take] at hs1; simp; omega
      clear hx9
      go_wp2_with fail
      go_region_law (first | (refine Agg.step_appendS (E := EB) (base := w8.heap.size) rfl _ _ rfl rv8 rfl rfl s1 HE9.out HRE9.out h63 (by decide) hbase9 ?_; intro v10 w10 ho10 hp10; have hx10 := HX9.out.trans (hp10.below w8.heap.size (Nat.le_refl _) hbase9); have hbase10 := hx10.size; have HO10 := Lib.hid ho10; have HX10 := Lib.hid hx10; have HSX10 := Lib.hid (HSX.out.below hx10); clear ho10 hp10 hx10) | (refine Agg.step_appendS (E := EB) (base := w8.heap.size) rfl _ _ rfl vx rfl rfl (b.drop k) HO10.out HSX10.out h63b (by decide) hbase10 ?_; intro v11 w11 ho11 hp11; have HX11 := Lib.hid (HX10.out.trans (hp11.below w8.heap.size (Nat.le_refl _) hbase10)); have HO11 := Lib.hid ho11; clear ho11 hp11) | (go_simp; refine (frames_any v11 (s1 ++ b.drop k) w11 hl12 HO11.out.slice).mono ?_; rintro e12 w12 ⟨hout12, hx12⟩; obtain ⟨lv12, rv12, c12, rfl, hfo12⟩ := hout12.form; have HFO12 := Lib.hid hfo12; have HX12 := Lib.hid (HX11.out.trans (hx12.mono HX11.out.size)); clear hout12 hfo12 hx12))
      have hk7 := HK7.out
      have HFO712 := Lib.hid (HFO78.out.below HX12.out)
      have HOL812 := Lib.hid (HOL8.out.below HX12.out)
      have HRO812 := Lib.hid (HRO8.out.below HX12.out)
      have HW12 := Lib.hid (Agg.belowThen HX8.out (Nat.le_refl _) HX12.out)
      have HFB := Lib.hid (show frames b = (frames (s1 ++ b.drop k)).map fun q => (f1 ++ q.1, q.2) by rw [H2.out, HF8.out]; rfl)
      have hbase12 : w7.heap.size ≤ w12.heap.size := Nat.le_trans h78 HX12.out.size
      clear HFO78 HFO8 HE9 HRE9 HX9 HO10 HX10 HSX10 HO11 HX11 HSX hbase9 hbase10 hk7
      cases hfr : frames (s1 ++ b.drop k) with
      | none =>
        have hfb : frames b = none := by rw [HFB.out, hfr]; rfl
        have hfo7 := HFO712.out
        have hfo12 := HFO12.out
        rcases hfo7 with ⟨_, rfl, rfl, rfl⟩ | ⟨_, _, _, h, _⟩
        · rcases hfo12 with ⟨_, rfl, rfl, rfl⟩ | ⟨_, _, _, h, _⟩
          · clear hfb hfr
            go_wp2_with fail
            go_ret
            exact ⟨rfl, HW12.out⟩
          · rw [hfr] at h; cases h
        · rw [hfb] at h; cases h
      | some q =>
        obtain ⟨l2, r2⟩ := q
        have hfb : frames b = some (f1 ++ l2, r2) := by rw [HFB.out, hfr]; rfl
        have hfo7 := HFO712.out
        have hfo12 := HFO12.out
        rcases hfo7 with ⟨h, _⟩ | ⟨vs7, ls7, r7, hf7, rfl, hol7, hro7, hre7⟩
        · rw [hfb] at h; cases h
        rcases hfo12 with ⟨h, _⟩ | ⟨vs12, ls12, r12, hf12, rfl, hol12, hro12, hre12⟩
        · rw [hfr] at h; cases h
        rw [hfb] at hf7
        obtain ⟨rfl, rfl⟩ : f1 ++ l2 = ls7 ∧ r2 = r7 := by simpa using hf7
        rw [hfr] at hf12
        obtain ⟨rfl, rfl⟩ : l2 = ls12 ∧ r2 = r12 := by simpa using hf12
        have hsz7 := frames_rest (Nat.le_refl _) hfb
        have hsz12 := frames_rest (Nat.le_refl _) hfr
        have hln7 := bytesSz_len (f1 ++ l2)
        have hm7 : ∀ l ∈ f1 ++ l2, l.length ≤ 1048576 := fun l h => by have := bytesSz_mem h; omega
        have hv8 := HRO812.out.len
        have hv12 := hro12.len
        have HM7 := Lib.hid hm7
        have HOL7 := Lib.hid hol7.slice
        have HRO7 := Lib.hid hro7
        have HRE7 := Lib.hid hre7
        have HOL12 := Lib.hid hol12.slice
        have HRO12 := Lib.hid hro12
        have HRE12 := Lib.hid hre12
        have hla : (f1 ++ l2).length ≤ 1048576 := by omega
        have h63c : vs8.length + vs12.length ≤ 1099511627776 / 8 := by simp only [List.length_append] at hla; omega
        have hr2 : r2.length ≤ 1048576 := by omega
        clear hf7 hf12 hfb hfr hol7 hro7 hre7 hol12 hro12 hre12 hm7 hsz7 hsz12 hln7
        go_wp2_with (first | (refine Agg.wpList_appendW (E := EBB) (base := w7.heap.size) rfl _ _ rfl lv12 rfl rfl vs12 HOL812.out HOL12.out h63c (by decide) hbase12 ?_; intro v13 w13 ho13 hp13; have HO13 := Lib.hid ho13; have HP13 := Lib.hid hp13; clear ho13 hp13))
        have hb7 : BBAt w13 lv7 vs7 := HOL7.out.onlyS HP13.out.only fun k hk h => by
          have h1 := HK7.out k hk
          have h2 := (HOL812.out.block k h).1
          omega
        have hri : RowsIn w13 (vs8 ++ vs12) (f1 ++ l2) := (HRO812.out.pushed HP13.out).rows.append (HRO12.out.pushedB HP13.out).rows
        have hw13 := HP13.out.below w.heap.size (Nat.le_trans HX7.out.size (Nat.le_refl _)) HW12.out.size
        refine (sameRows_any lv7 v13 vs7 (vs8 ++ vs12) (f1 ++ l2) (f1 ++ l2) hla hla HM7.out HM7.out w13 hb7 HO13.out.slice (HRO7.out.pushedB HP13.out).rows hri).mono ?_
        rintro e w14 ⟨rfl, hx14⟩
        rw [show decide (f1 ++ l2 = f1 ++ l2) = true by simp]
        have HRE713 := Lib.hid ((HRE7.out.pushed HP13.out).below hx14)
        have HRE1213 := Lib.hid ((HRE12.out.pushed HP13.out).below hx14)
        have HW14 := Lib.hid (Agg.belowThen (HW12.out.trans hw13) (Nat.le_refl _) hx14)
        clear hb7 hri hw13 hx14
        go_wp2_with fail
        refine (sameBytes_any rv7 rv12 r2 r2 hr2 hr2 w14 HRE713.out.slice HRE1213.out.slice).mono ?_
        rintro e w15 ⟨rfl, hx15⟩
        rw [show decide (r2 = r2) = true by simp]
        have HW15 := Lib.hid (Agg.belowThen HW14.out (Nat.le_refl _) hx15)
        clear hx15
        go_wp2_with fail
        go_ret
        exact ⟨rfl, HW15.out⟩
  · by_cases hn6 : n ≤ 6000
    · have hI1 : ¬ (6000 : Int) < (n : Int) := by omega
      have hI2 : (6000 : Int) < (b.length : Int) := by omega
      clear hn hgo hbig
      go_wp2_with fail
      go_ret
      exact ⟨rfl, HX1.out⟩
    · have hI1 : (6000 : Int) < (n : Int) := by omega
      clear hn hgo hbig
      go_wp2_with fail
      go_ret
      exact ⟨rfl, HX1.out⟩
end Go.Proofs.Ytpnolgliklmnmaa
