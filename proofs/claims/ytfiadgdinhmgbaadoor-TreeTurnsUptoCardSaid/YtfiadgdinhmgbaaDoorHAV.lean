/- Towards tree.put: names behind the first one; a kid put in; what tree.put tells. -/
import Derived.Test.YtfiadgdinhmgbaaDoorHAT
import Derived.Test.YtfiadgdinhmgbaaDoorHAO
import Derived.Test.YtfiadgdinhmgbaaDoorHAU
import Derived.Test.YtfiadgdinhmgbaaDoorHAF
import Derived.Test.YtfiadgdinhmgbaaDoorHAP
namespace Go.Agg
open Go.RowKit
theorem step_oneE {P : Program} {α : Type} {E : Elem P α} {ops : Array Oper} {o : Oper} {a : Act} {w : World} {Q : Exit → Act → World → Prop} {K : Act → World → Prop} {F : Prop} (hg : o.guard = none) (y : Operand) (ho : o.op = .buildSlice E.st 1 #[(0, y)]) (x : α) (hy : a.eval y = E.val x)
  (h : ∀ gv w', Blk w' gv E.ty (E.val x).cells → Below w.heap.size w w' → w.heap.size ≤ gv → K (a.put o.dst (.slice (some ⟨gv, 0, none⟩) 1 1)) w') : if Region.wanted o (yielded ops a.tmps) = true then o.wp P a w K Q else F :=
 step_val hg (v := .slice (some ⟨w.heap.size, 0, none⟩) 1 1) (w' := w.alloc (.cells (E.val x).cells E.ty)) (by simp [execOp, ho, hy, run_slice_one]) (h _ _ (Blk.new w _ _) ((Below.refl _ _).alloc (Nat.le_refl _) _) (Nat.le_refl _))
end Go.Agg
namespace Go.Proofs.YtfiadgdinhmgbaaDoor
open Go.RowKit Pl Go.Agg Go.Tr
theorem ndl_mid {w : World} {g : Nat} {ty : TypeId} {xs zs : Array Value} {n : NdV} (h : Blk w g ty (xs ++ (ndC n ++ zs))) : NdL w ⟨g, xs.size, none⟩ n :=
 NdL.of_cells h.lt (fun j u hj => by
  rw [add_plain, h.cell, Array.getElem?_append_right (Nat.le_add_right _ _), Nat.add_sub_cancel_left]
  obtain ⟨hlt, he⟩ := Array.getElem?_eq_some_iff.1 hj
  rw [Array.getElem?_append_left hlt]
  exact hj)
theorem mid_kids (xs zs : Array Value) (n : NdV) (s : SV) : (xs ++ (ndC n ++ zs)).setIfInBounds (xs.size + 2) s.1 = xs ++ (ndC (n.1, n.2.1, s) ++ zs) := by
 apply Array.toList_inj.1
 simp [ndC]
theorem kidX_at (g m cap k : Nat) (hk : k < m) (W : World) : (Instr.indexAt 24 (.slice (some ⟨g, 0, none⟩) m cap) (.int .i64 (k : Int))).run Tryd.prog W = .ok (.pointer (some ⟨g, k * 4, none⟩)) W := by
 have hel : Tryd.prog.elem 24 = 51 := by kernel_rfl
 have hsz : ∀ W, (Go.sizeOf 51).run Tryd.prog W = .ok 4 W := fun W => by kernel_rfl
 rw [run_indexAt_slice W 24 _ m cap .i64 (k : Int) (by rw [hel]; kernel_rfl), if_pos (by omega), hel, hsz]
 simp [Result.andThen, Addr.add]
 rcases k with _ | k <;> simp
theorem nodup_up {g gk N : Nat} {A c1 b2 c2 bx b' : List Nat} (hnd : (g :: ((A ++ ([gk] ++ (c1 ++ (b2 ++ c2)))) ++ bx)).Nodup) (hlt : ∀ j ∈ g :: ((A ++ ([gk] ++ (c1 ++ (b2 ++ c2)))) ++ bx), j < N)
  (hn9 : (gk :: b').Nodup) (hm9 : ∀ j ∈ b', j ∈ b2 ∨ j ∈ bx ∨ N ≤ j) : (g :: (A ++ ([gk] ++ (c1 ++ (b' ++ c2))))).Nodup := by
 rw [List.nodup_iff_count] at *
 intro a
 have h := hnd a
 have h9 := hn9 a
 simp only [List.count_cons, List.count_append, List.count_nil] at h h9 ⊢
 by_cases ha : a ∈ b'
 ·rcases hm9 a ha with h1 | h1 | h1
  ·have := List.count_pos_iff.2 h1; omega
  ·have := List.count_pos_iff.2 h1; omega
  ·have hz : a ∉ g :: ((A ++ ([gk] ++ (c1 ++ (b2 ++ c2)))) ++ bx) := fun hh => by have := hlt a hh; omega
   have hc := List.count_eq_zero.2 hz
   simp only [List.count_cons, List.count_append, List.count_nil] at hc
   omega
 ·have := List.count_eq_zero.2 ha
  omega
theorem nodup_swap {g N : Nat} {A B B' C X : List Nat} (hnd : (g :: ((A ++ (B ++ C)) ++ X)).Nodup) (hlt : ∀ j ∈ g :: ((A ++ (B ++ C)) ++ X), j < N) (hn : B'.Nodup) (hm : ∀ j ∈ B', j ∈ B ∨ N ≤ j) : (g :: ((A ++ (B' ++ C)) ++ X)).Nodup := by
 rw [List.nodup_iff_count] at *
 intro a
 have h := hnd a
 have h9 := hn a
 simp only [List.count_cons, List.count_append] at h ⊢
 by_cases ha : a ∈ B'
 ·rcases hm a ha with h1 | h1
  ·have := List.count_pos_iff.2 h1; omega
  ·have hz : a ∉ g :: ((A ++ (B ++ C)) ++ X) := fun hh => by have := hlt a hh; omega
   have hc := List.count_eq_zero.2 hz
   simp only [List.count_cons, List.count_append] at hc
   omega
 ·have := List.count_eq_zero.2 ha
  omega
theorem nodup_not {l m : List Nat} {a : Nat} (h : (l ++ m).Nodup) (ha : a ∈ l) : a ∉ m := fun hm => (List.nodup_append.1 h).2.2 a ha a hm rfl
theorem names_rest {w : World} {v : Value} {a : List UInt8} {l : N} (h : SliceOf ES w v (a :: l)) (hc : ∀ p m c, v = .slice p m c → m ≤ c) :
  ∃ v', (∀ W, (Instr.sliceAt 37 v (some (.int .i64 1)) none none).run Tryd.prog W = .ok v' W) ∧ SliceOf ES w v' l ∧ (∀ b, v'.ownBlock = some b → v.ownBlock = some b) ∧ (∀ p m c, v' = .slice p m c → m ≤ c) ∧ ∀ W, SliceOf ES W v (a :: l) → SliceOf ES W v' l := by
 obtain ⟨p, c, rfl⟩ := h.form
 have hlc := hc _ _ _ rfl
 simp only [List.length_cons] at hlc
 have key : ∀ W, SliceOf ES W (.slice p (a :: l).length c) (a :: l) → SliceOf ES W (.slice (if c = 1 then p else p.map (·.add (1 * ES.n))) ((a :: l).length - 1) (c - 1)) l := fun W h => by
  rcases h with ⟨q, d, e, h0⟩ | ⟨q, d, e, hq, hcell⟩
  ·cases h0
  ·simp only [Value.slice.injEq] at e
   obtain ⟨rfl, _, rfl⟩ := e
   by_cases hck : c = 1
   ·obtain rfl : l = [] := List.eq_nil_of_length_eq_zero (by omega)
    exact SliceOf.nil _ _ _
   ·rw [if_neg hck]
    refine .inr ⟨q.add (1 * ES.n), c - 1, by simp, by rw [add_block]; exact hq, fun j u hj => ?_⟩
    have := hcell (1 * ES.n + j) u (by
     have e : ES.flat (a :: l) = ES.cs a ++ ES.flat l := rfl
     have hl : (ES.cs a).length = 1 := ES.cs_length a
     rw [e, List.getElem?_append_right (by rw [hl]; show 1 ≤ 1 * 1 + j; omega), hl, show 1 * ES.n + j - 1 = j by show 1 * 1 + j - 1 = j; omega]
     exact hj)
    rwa [← add_add] at this
 refine ⟨_, fun W => ES.runLow (P := Tryd.prog) p (a :: l).length c 1 (by simp) W, key w h, ?_, ?_, key⟩
 ·intro b hb
  by_cases hck : c = 1
  ·rw [if_pos hck] at hb; cases p <;> exact hb
  ·rw [if_neg hck] at hb
   cases p with
   | none => cases hb
   | some q => simpa [Value.ownBlock, add_block] using hb
 ·intro q m d e
  simp only [Value.slice.injEq, List.length_cons] at e
  omega
theorem names_load {W : World} {v : Value} {a : List UInt8} {l : N} {p : Addr} (h : SliceOf ES W v (a :: l)) (hadr : ∀ W, (Instr.indexAt 37 v (.int .i64 0)).run Tryd.prog W = .ok (.pointer (some p)) W) : LoadsL Tryd.prog W 9 (some p) (.string ⟨a.toArray⟩) := by
 obtain ⟨q, h1, h2⟩ := strs_at h 0 a rfl
 have h3 := (hadr W).symm.trans (h1 W)
 simp only [Result.ok.injEq, Value.pointer.injEq, Option.some.injEq, and_true] at h3
 rw [h3]; exact h2
theorem insertK_any (v : Value) (ks : List KdV) (hl : ks.length ≤ 1048576) (base gv k : Nat) (x : KdV) (w : World) (hown : Agg.Own EK base w v ks) (hv : Blk w gv 51 (kdC x)) (hne : ∀ b, v.ownBlock = some b → gv ≠ b) (hbase : base ≤ w.heap.size) (hk : k ≤ ks.length) :
  Calls Tryd.prog 69 #[v, .int .i64 (k : Int), .slice (some ⟨gv, 0, none⟩) 1 1] w fun e w' => ∃ v', e = .returned v' ∧ Agg.Own EK base w' v' (ks.take k ++ x :: ks.drop k) ∧ Pushed EK base w w' v ∧ Grew w v v' := by
 by_cases he : k = ks.length
 ·subst he
  rw [List.take_length, List.drop_length]
  exact insert_endK v ks hl base gv x w hown hv hbase
 ·have hown' := hown
  obtain ⟨_, ⟨rfl, h0⟩ | ⟨g, cap, cur, rfl, _⟩⟩ := hown'
  ·omega
  ·by_cases hr : ks.length + 1 ≤ cap
   ·exact insert_roomK ks hl base g cap gv k x w hown hv (hne g rfl) (by omega) hr
   ·exact insert_growK ks hl base g cap gv k x w hown hv hbase (by omega) (by omega)
def PutQ (base g : Nat) (ty : TypeId) (xs zs : Array Value) (bs bx : List Nat) (o : Option T) (w : World) (e : Ending) (w' : World) : Prop :=
 ∃ e' : Nat, e = .returned (.int .i64 (e' : Int)) ∧ Only (fun j => j = g ∨ j ∈ bs) w w' ∧ (o = none → e' = 6) ∧ ∀ t', o = some t' → e' = 0 ∧ ∃ n' bs', Blk w' g ty (xs ++ (ndC n' ++ zs)) ∧ OwnT base w' n' t' bs' ∧ (g :: bs').Nodup ∧ ∀ j ∈ bs', j ∈ bs ∨ j ∈ bx ∨ w.heap.size ≤ j
theorem put_end {base g gk k : Nat} {ty : TypeId} {xs zs xk zk : Array Value} {nb nks vk : SV} {b : List UInt8} {ks : List KdV} {kl0 kl : List K} {c1 c2 b2 cs bx : List Nat} {a : List UInt8} {y : NdV} {u tx : T} {l : N} {w W w9 : World} {e : Ending}
  (hbl : Blk W g ty (xs ++ (ndC (4, nb, vk) ++ zs))) (hby : Agg.Own EB base W nb.1 b) (hcs : cs = c1 ++ (b2 ++ c2)) (hvg : ownB vk.1 = [gk])
  (hturn : ∀ {S : Nat → Prop} {W' : World}, Only S W W' → (∀ j ∈ c1, ¬ S j) → (∀ j ∈ c2, ¬ S j) → ∀ (n' : NdV) (u' : T) (b' : List Nat), OwnT base W' n' u' b' → OwnL base W' (ks.set k (a, n')) (kl.set k (a, u')) (c1 ++ (b' ++ c2)))
  (hupd : ∀ (W' : World) (n' : NdV), Blk W' gk 51 (xk ++ (ndC n' ++ zk)) → Agg.Own EK base W' vk.1 (ks.set k ((a, y).1, n')))
  (hnd : (g :: ((ownB nb.1 ++ (ownB vk.1 ++ cs)) ++ bx)).Nodup) (hlt : ∀ j ∈ g :: ((ownB nb.1 ++ (ownB vk.1 ++ cs)) ++ bx), j < W.heap.size) (hw : w.heap.size ≤ W.heap.size)
  (hO : Only (fun j => j = g ∨ j ∈ ownB nb.1 ++ (ownB nks.1 ++ cs)) w W) (hvk : ∀ j ∈ ownB vk.1, j ∈ ownB nks.1 ∨ w.heap.size ≤ j)
  (hq : PutQ base gk 51 xk zk b2 bx (put u tx l) W e w9) (hp : put (.mk 4 b kl0) tx (a :: l) = (put u tx l).map fun y => .mk 4 b (kl.set k (a, y))) :
  PutQ base g ty xs zs (ownB nb.1 ++ (ownB nks.1 ++ cs)) bx (put (.mk 4 b kl0) tx (a :: l)) w e w9 := by
 obtain ⟨e', rfl, ho9, h6, h0⟩ := hq
 subst hcs
 rw [hvg] at hnd hlt hvk
 have hgk := hvk gk (List.mem_singleton.2 rfl)
 have hcount := List.nodup_iff_count.1 hnd
 have hS : ∀ j, (j = gk ∨ j ∈ b2) → j ≠ g ∧ j ∉ ownB nb.1 ∧ j ∉ c1 ∧ j ∉ c2 := fun j h => by
  have hc := hcount j
  simp only [List.count_cons, List.count_append, List.count_nil] at hc
  have key : ∀ L : List Nat, List.count j L = 0 → j ∉ L := fun L h => List.count_eq_zero.1 h
  have hpos : 0 < (if gk == j then 1 else 0) + List.count j b2 := by
   rcases h with rfl | h
   ·simp only [beq_self_eq_true, if_true]; omega
   ·have := List.count_pos_iff.2 h; omega
  refine ⟨fun e => ?_, key _ (by omega), key _ (by omega), key _ (by omega)⟩
  have hg1 : (if (g == j) = true then 1 else 0) = 1 := by simp [e]
  omega
 refine ⟨e', rfl, hO.trans ho9 fun i hi hT => ?_, fun h => ?_, fun t' h => ?_⟩
 ·rcases hT with rfl | hT
  ·rcases hgk with h | h
   ·exact .inr (by simp [h])
   ·omega
  ·exact .inr (by simp [hT])
 ·rw [hp] at h
  cases hpu : put u tx l with
  | none => exact h6 hpu
  | some y => rw [hpu] at h; cases h
 ·rw [hp] at h
  cases hpu : put u tx l with
  | none => rw [hpu] at h; cases h
  | some y2 =>
   rw [hpu] at h
   obtain rfl := Option.some.inj h
   obtain ⟨he, n', b', hb9, ht9, hn9, hm9⟩ := h0 y2 hpu
   refine ⟨he, (4, nb, vk), ownB nb.1 ++ (ownB vk.1 ++ (c1 ++ (b' ++ c2))), Agg.Blk.keepO hbl ho9 (fun h => (hS g h).1 rfl), ⟨rfl, ?_, _, _, hupd w9 n' hb9, ?_, rfl⟩, ?_, ?_⟩
   ·exact own_stays hby ho9 fun j hj h => (hS j h).2.1 hj
   ·exact hturn ho9 (fun j hj h => (hS j h).2.2.1 hj) (fun j hj h => (hS j h).2.2.2 hj) n' y2 b' ht9
   ·rw [hvg]
    exact nodup_up hnd hlt hn9 hm9
   ·intro j hj
    rw [hvg] at hj
    simp only [List.mem_append, List.mem_singleton] at hj ⊢
    rcases hj with hj | rfl | hj | hj | hj
    ·simp [hj]
    ·rcases hgk with h | h <;> simp [h]
    ·simp [hj]
    ·rcases hm9 j hj with h | h | h
     ·simp [h]
     ·simp [h]
     ·right; right; omega
    ·simp [hj]
end Go.Proofs.YtfiadgdinhmgbaaDoor
