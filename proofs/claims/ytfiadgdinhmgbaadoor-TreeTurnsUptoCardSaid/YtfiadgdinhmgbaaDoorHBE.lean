/- slices.Delete of one kid out of kids of one's own. -/
import Derived.Test.YtfiadgdinhmgbaaDoorHAT
import Derived.ArgAppend
namespace Go.Proofs.YtfiadgdinhmgbaaDoor
open Go.RowKit Pl Go.Agg Go.Tr
theorem clear_run {w : World} {g : Nat} {cs : Array Value} (off n c : Nat) (hn : 0 < n) (hb : w.heap[g]? = some (.cells cs 51 (0, 0))) (hle : off + n * 4 ≤ cs.size) (ty : TypeId) :
  (Builtin.clear_ #[24] ty #[.slice (some ⟨g, off, none⟩) n c]).run Tryd.prog w = .ok (.tuple #[]) (w.setCells g off (Builtin.zeroCells EK.zero.cells n).toList) := by
 have hz : (Builtin.zeroCells EK.zero.cells n).toList = EK.flat (List.replicate n kdZ) := zeroCells_flat kdZ rfl n
 have hlen : (EK.flat (List.replicate n kdZ)).length = n * 4 := by rw [EK.flat_length, List.length_replicate]; rfl
 have hst := run_storeCells_cells (P := Tryd.prog) g off (EK.flat (List.replicate n kdZ)) 0 w (fun j hj => by
  rw [hlen] at hj
  rw [cell_of_row _ _ _ _ _ _ hb, Array.getElem?_eq_getElem (by omega)]; rfl) (fun j hj => frozen_of_row _ _ _ _ _ hb) (EK.flat_one' _)
 simp only [Nat.add_zero] at hst
 have hzv : (zeroValue 51).run Tryd.prog w = .ok EK.zero w := by kernel_rfl
 obtain ⟨m, rfl⟩ : ∃ m, n = m + 1 := ⟨n - 1, by omega⟩
 simp only [Builtin.clear_]
 simp [Sem.run_bind, run_underlying kds_under, hzv, Result.andThen]
 rw [hz, hst]
theorem set_mid {w : World} {g : Nat} {cs : Array Value} {A B C vs : List Value} (hb : w.heap[g]? = some (.cells cs 51 (0, 0))) (hc : cs.toList = A ++ (B ++ C)) (hl : B.length = vs.length) :
  (w.setCells g A.length vs).heap[g]? = some (.cells (A ++ (vs ++ C)).toArray 51 (0, 0)) := by
 have e : cs = (A ++ (B ++ C)).toArray := by apply Array.toList_inj.1; simpa using hc
 subst e
 have h := Agg.Blk.setAll vs A.length w _ (show Blk w g 51 (A ++ (B ++ C)).toArray from hb)
 rw [setAll_mid vs A B C hl] at h
 exact h
theorem only_setCellsK {w : World} {g : Nat} : ∀ (vs : List Value) (i : Nat), Only (· = g) w (w.setCells g i vs) := by
 intro vs
 induction vs generalizing w with
 | nil => intro i; exact Only.refl _ _
 | cons v vs ih => intro i; exact Only.then2 (w' := w.setCell ⟨g, i, none⟩ v) ⟨rfl, rfl, rfl, by simp [World.setCell], fun k _ hk => Below.heap_setCell _ _ _ _ hk⟩ (ih (i + 1))
theorem own_delete {base : Nat} {w : World} {g c k : Nat} {l : List KdV} (h : Agg.Own EK base w (.slice (some ⟨g, 0, none⟩) l.length c) l) (hk : k < l.length) : ∃ w1 w2 : World,
  (∀ ty, (Builtin.append_ #[24, 24] ty #[.slice (some ⟨g, 0, none⟩) k c, .slice (if c = k + 1 then some ⟨g, 0, none⟩ else some ⟨g, (k + 1) * 4, none⟩) (l.length - (k + 1)) (c - (k + 1))]).run Tryd.prog w = .ok (.slice (some ⟨g, 0, none⟩) (l.length - 1) c) w1) ∧
  (∀ ty, (Builtin.clear_ #[24] ty #[.slice (some ⟨g, (l.length - 1) * 4, none⟩) 1 (c - (l.length - 1))]).run Tryd.prog w1 = .ok (.tuple #[]) w2) ∧
  Agg.Own EK base w2 (.slice (some ⟨g, 0, none⟩) (l.length - 1) c) (l.take k ++ l.drop (k + 1)) ∧ Only (· = g) w w2 ∧ Only (· = g) w w1 := by
 obtain ⟨_, ⟨h0, _⟩ | ⟨g', cap, cur, hv, hgb, hcur, hle, hmx, hsz, htk⟩⟩ := h
 ·cases h0
 obtain ⟨rfl, rfl⟩ : g = g' ∧ c = cap := by injection hv with e1 e2 e3; injection e1 with e1; injection e1 with e1; exact ⟨e1, e3⟩
 have hcz : cur.toList.length = c * 4 := by rw [Array.length_toList]; exact hsz
 have htk' : cur.toList.take (l.length * 4) = EK.flat l := htk
 have hfl : ∀ m : List KdV, (EK.flat m).length = m.length * 4 := fun m => EK.flat_length m
 -- the row: what stays, what is written over, what is behind
 obtain ⟨news, hnews⟩ : ∃ news, news = EK.flat (l.drop (k + 1)) := ⟨_, rfl⟩
 have hnl : news.length = (l.length - (k + 1)) * 4 := by rw [hnews, hfl, List.length_drop]
 obtain ⟨A, hA⟩ : ∃ A, A = EK.flat (l.take k) := ⟨_, rfl⟩
 have hAl : A.length = k * 4 := by rw [hA, hfl, List.length_take, Nat.min_eq_left (by omega)]
 have hAt : cur.toList.take (k * 4) = A := by
  rw [hA, ← EK.flat_take l k (by omega), ← htk', List.take_take]
  show _ = cur.toList.take (min (k * 4) (l.length * 4))
  rw [Nat.min_eq_left (by omega)]
 have hcut : cur.toList = A ++ (((cur.toList.drop (k * 4)).take ((l.length - (k + 1)) * 4)) ++ cur.toList.drop ((l.length - 1) * 4)) := by
  conv => lhs; rw [← List.take_append_drop (k * 4) cur.toList, hAt, ← List.take_append_drop ((l.length - (k + 1)) * 4) (cur.toList.drop (k * 4)), List.drop_drop]
  rw [show k * 4 + (l.length - (k + 1)) * 4 = (l.length - 1) * 4 by omega]
 have hB : ((cur.toList.drop (k * 4)).take ((l.length - (k + 1)) * 4)).length = news.length := by rw [hnl, List.length_take, List.length_drop, hcz]; omega
 have hw1 := set_mid (vs := news) hcur hcut hB
 rw [hAl] at hw1
 obtain ⟨R, hR⟩ : ∃ R, R = cur.toList.drop ((l.length - 1) * 4) := ⟨_, rfl⟩
 have hRl : R.length = (c - (l.length - 1)) * 4 := by rw [hR, List.length_drop, hcz]; omega
 rw [← hR] at hw1 hcut
 have hF : A ++ news = EK.flat (l.take k ++ l.drop (k + 1)) := by rw [EK.flat_append, hA, hnews]
 have hFl : (A ++ news).length = (l.length - 1) * 4 := by rw [List.length_append, hAl, hnl]; omega
 have hcut2 : (A ++ (news ++ R)).toArray.toList = (A ++ news) ++ (R.take 4 ++ R.drop 4) := by simp
 obtain ⟨Z, hZ⟩ : ∃ Z, Z = (Builtin.zeroCells EK.zero.cells 1).toList := ⟨_, rfl⟩
 have hZl : Z.length = 4 := by rw [hZ, zeroCells_flat (E := EK) kdZ rfl 1, hfl]; rfl
 have hR4 : (R.take 4).length = Z.length := by rw [hZl, List.length_take, hRl]; omega
 have hw2 := set_mid (vs := Z) hw1 hcut2 hR4
 rw [hFl] at hw2
 refine ⟨w.setCells g (k * 4) news, (w.setCells g (k * 4) news).setCells g ((l.length - 1) * 4) Z, fun ty => ?_, fun ty => ?_, ⟨EK.flat_length _, .inr ⟨g, c, _, by simp; omega, hgb, hw2, by simp; omega, hmx, ?_, ?_⟩⟩, (only_setCellsK _ _).then2 (only_setCellsK _ _), only_setCellsK _ _⟩
 ·obtain ⟨i, hi, hz, hs, hb⟩ := EK.info
  obtain ⟨a9, ha9⟩ : ∃ a9 : Addr, (if c = k + 1 then some (⟨g, 0, none⟩ : Addr) else some ⟨g, (k + 1) * 4, none⟩) = some a9 := by split <;> exact ⟨_, rfl⟩
  have hsz4 : i.size = 4 := hs
  have hr := run_append_room_cells (P := Tryd.prog) w 24 ty 51 i EK.slice hi g 0 k c a9 (l.length - (k + 1)) (c - (k + 1)) news (by rw [hnl, hsz4]) (fun j u hj => by
   have hjl := (List.getElem?_eq_some_iff.1 hj).1
   rw [hnl] at hjl
   rw [if_neg (by omega)] at ha9
   obtain rfl := Option.some.inj ha9
   rw [add_plain, cell_of_row _ _ _ _ _ _ hcur, ← Array.getElem?_toList]
   rw [hnews, ← EK.flat_drop l (k + 1) (by omega), ← htk', List.getElem?_drop, List.getElem?_take] at hj
   split at hj
   ·exact hj
   ·cases hj) (by rw [hnews]; exact EK.flat_one' _) (by omega) (fun j hj => by
    rw [hnl] at hj
    rw [cell_of_row _ _ _ _ _ _ hcur, Array.getElem?_eq_getElem (by rw [hsz4]; show 0 + k * 4 + j < cur.size; rw [show cur.size = c * 4 from hsz]; omega)]; rfl) (fun j hj => frozen_of_row _ _ _ _ _ hcur)
  rw [ha9, hr, hsz4, show k + (l.length - (k + 1)) = l.length - 1 by omega, Nat.zero_add]
 ·rw [hZ]
  exact clear_run _ 1 _ (by omega) hw1 (by simp only [List.size_toArray, List.length_append, hAl, hnl, hRl]; omega) ty
 ·simp only [List.size_toArray, List.length_append, hAl, hnl, hZl, List.length_drop, hRl]
  show _ = c * 4
  omega
 ·rw [← hF]
  show List.take (_ * 4) ((A ++ news) ++ (Z ++ R.drop 4)) = _
  refine List.take_left' ?_
  rw [hFl]
  simp
  omega
theorem sl_low4 (p : Option Addr) (n c k : Nat) (hk : k ≤ n) (W : World) : (Instr.sliceAt 24 (.slice p n c) (some (.int .i64 (k : Int))) none none).run Tryd.prog W = .ok (.slice (if c = k then p else p.map (·.add (k * 4))) (n - k) (c - k)) W := EK.runLow (P := Tryd.prog) p n c k hk W
theorem sl_high4 (p : Option Addr) (n c k : Nat) (hk : k ≤ c) (W : World) : (Instr.sliceAt 24 (.slice p n c) none (some (.int .i64 (k : Int))) none).run Tryd.prog W = .ok (.slice p k c) W := EK.runHigh (P := Tryd.prog) p n c k hk W
theorem sl_both4 (g n c lo hi : Nat) (h1 : lo ≤ hi) (h2 : hi ≤ c) (hc : lo < c) (W : World) : (Instr.sliceAt 24 (.slice (some ⟨g, 0, none⟩) n c) (some (.int .i64 (lo : Int))) (some (.int .i64 (hi : Int))) none).run Tryd.prog W = .ok (.slice (some ⟨g, lo * 4, none⟩) (hi - lo) (c - lo)) W := by
 have hu : Tryd.prog.underlying 24 = some (.slice 51) := by kernel_rfl
 have hs := run_sizeOf_elem (P := Tryd.prog) (E := EK)
 have h3 : lo ≤ c := by omega
 have hne : ¬ c = lo := by omega
 have hn4 : EK.n = 4 := rfl
 have hty : EK.ty = 51 := rfl
 rw [hn4, hty] at hs
 simp [Instr.sliceAt, Instr.slice, Instr.sliceBounds, Instr.sliceBound, run_underlying hu, Sem.run_bind, asIntOf, h1, h2, hs, hne, add_plain]
theorem sl_three4 (g n c lo hi : Nat) (h1 : lo ≤ hi) (h2 : hi ≤ n) (h3 : n ≤ c) (hc : lo < n) (W : World) : (Instr.sliceAt 24 (.slice (some ⟨g, 0, none⟩) n c) (some (.int .i64 (lo : Int))) (some (.int .i64 (hi : Int))) (some (.int .i64 (n : Int)))).run Tryd.prog W = .ok (.slice (some ⟨g, lo * 4, none⟩) (hi - lo) (n - lo)) W := by
 have hu : Tryd.prog.underlying 24 = some (.slice 51) := by kernel_rfl
 have hs := run_sizeOf_elem (P := Tryd.prog) (E := EK)
 have h4 : lo ≤ n := by omega
 have hne : ¬ n = lo := by omega
 have hn4 : EK.n = 4 := rfl
 have hty : EK.ty = 51 := rfl
 rw [hn4, hty] at hs
 simp [Instr.sliceAt, Instr.slice, Instr.sliceBounds, Instr.sliceBound, run_underlying hu, Sem.run_bind, asIntOf, h1, h2, h3, hs, hne, add_plain]
theorem wpList_clearR {ops : Array Oper} {rest : List Oper} {o : Oper} {a : Act} {w w' : World} {Q : Exit → Act → World → Prop} (hgd : o.guard = none) (hd : o.dst = none) (s : Operand) (t : TypeId)
  (ho : o.op = .call { callee := .builtin .clear, args := #[s], argTypes := #[t] }) (vs : Value) (hs : a.eval s = vs)
  (hr : (Builtin.clear_ #[t] o.type #[vs]).run Tryd.prog w = .ok (.tuple #[]) w') (h : wpList Tryd.prog ops Q rest a w') : wpList Tryd.prog ops Q (o :: rest) a w := by
 refine Agg.wpList_val hgd (v := .tuple #[]) (w' := w') ?_ (by rw [hd]; exact h)
 simp only [execOp, ho, resolve, invoke, builtin, Sem.run_bind, Sem.run_pure, Result.andThen_ok, List.map_toArray, List.map_cons, List.map_nil, hs, hr]
set_option maxRecDepth 100000 in
set_option maxHeartbeats 4000000 in
theorem deleteK_any (g c k : Nat) (l : List KdV) (hl : l.length ≤ 1048576) (base : Nat) (w : World) (hown : Agg.Own EK base w (.slice (some ⟨g, 0, none⟩) l.length c) l) (hk : k < l.length) :
  Calls Tryd.prog 42 #[.slice (some ⟨g, 0, none⟩) l.length c, .int .i64 (k : Int), .int .i64 ((k : Int) + 1)] w fun e w' => e = .returned (.slice (some ⟨g, 0, none⟩) (l.length - 1) c) ∧ Agg.Own EK base w' (.slice (some ⟨g, 0, none⟩) (l.length - 1) c) (l.take k ++ l.drop (k + 1)) ∧ Only (· = g) w w' := by
 have hlv := fun W => hown.slice.len W
 obtain ⟨cur, hcur, hsz, hle, hmx, hgb⟩ := own_rowK hown
 have hle : l.length ≤ c := hle
 have hs3 : ∀ W, (Instr.sliceAt 24 (.slice (some ⟨g, 0, none⟩) l.length c) (some (.int .i64 (k : Int))) (some (.int .i64 ((k : Int) + 1))) (some (.int .i64 (l.length : Int)))).run Tryd.prog W = .ok (.slice (some ⟨g, k * 4, none⟩) 1 (l.length - k)) W := fun W => by
  have h := sl_three4 g l.length c k (k + 1) (by omega) (by omega) hle hk W
  rwa [show ((k + 1 : Nat) : Int) = (k : Int) + 1 by omega, show k + 1 - k = 1 by omega] at h
 have hs1 := sl_high4 (some ⟨g, 0, none⟩) l.length c k (by omega)
 have hs2 : ∀ W, (Instr.sliceAt 24 (.slice (some ⟨g, 0, none⟩) l.length c) (some (.int .i64 ((k : Int) + 1))) none none).run Tryd.prog W = .ok (.slice (if c = k + 1 then some ⟨g, 0, none⟩ else some ⟨g, (k + 1) * 4, none⟩) (l.length - (k + 1)) (c - (k + 1))) W := fun W => by
  have h := sl_low4 (some ⟨g, 0, none⟩) l.length c (k + 1) (by omega) W
  rw [show ((k + 1 : Nat) : Int) = (k : Int) + 1 by omega] at h
  rw [h]
  simp only [Option.map_some, add_plain, Nat.zero_add]
 have hs4 : ∀ W, (Instr.sliceAt 24 (.slice (some ⟨g, 0, none⟩) (l.length - 1) c) (some (.int .i64 ((l.length - 1 : Nat) : Int))) (some (.int .i64 (l.length : Int))) none).run Tryd.prog W = .ok (.slice (some ⟨g, (l.length - 1) * 4, none⟩) 1 (c - (l.length - 1))) W := fun W => by
  have h := sl_both4 g (l.length - 1) c (l.length - 1) l.length (by omega) (by omega) (by omega) W
  rwa [show l.length - (l.length - 1) = 1 by omega] at h
 have hkk : ((k : Int) == (k : Int) + 1) = false := by rw [beq_eq_false_iff_ne]; omega
 have hkd : decide ((k : Int) = (k : Int) + 1) = false := decide_eq_false (by omega)
 have HO := Lib.hid hown
 clear hown hcur hsz hmx
 go_enter Tryd.func42, Tryd.ntmps42
 go_wp2_with fail
 try simp only [List.append_eq, List.cons_append, List.nil_append]
 try simp only [Act.put, List.setIfInBounds_toArray, List.set_cons_succ, List.set_cons_zero]
 refine Agg.wp_region_mid 6 7 (fun w' => ∃ x : Later w, w' = x.w) (by kernel_rfl) (by kernel_rfl) ⟨⟨_, (Below.refl _ _).drew⟩, rfl⟩ ?_
 simp only [List.take_succ_cons, List.take_zero, List.drop_succ_cons, List.drop_zero]
 repeat (first | go_big_quiet_skip | go_big_quiet_step (fail))
 refine wpQuiet_nil ?_
 intro _ hw'
 obtain ⟨x1, rfl⟩ := hw'
 obtain ⟨w1, w2, hr1, hr2, ho2, hn2, _⟩ := own_delete (HO.out.below x1.h) hk
 have hlen : (l.take k ++ l.drop (k + 1)).length = l.length - 1 := by simp; omega
 have hlm : ∀ W, (Builtin.len_ #[24] 3 #[.slice (some ⟨g, 0, none⟩) (l.length - 1) c]).run Tryd.prog W = .ok (.int .i64 ((l.length - 1 : Nat) : Int)) W := fun W => by
  have h := ho2.slice.len W
  rwa [hlen] at h
 have hr2 := fun ty => (congrArg (fun j => (Builtin.clear_ #[24] ty #[.slice (some ⟨g, (l.length - 1) * 4, none⟩) j (c - (l.length - 1))]).run Tryd.prog w1) (show l.length - (l.length - 1) = 1 by omega)).trans (hr2 ty)
 generalize (if c = k + 1 then _ else _) = p at hs2 hr1
 have HR1 := Lib.hid hr1
 have HR2 := Lib.hid hr2
 have HO2 := Lib.hid ho2
 have HN2 := Lib.hid ((Only.of_below (S := (· = g)) x1.h).then2 hn2)
 clear hr1 hr2 ho2 hn2 hlen
 go_wp2_with (first | (at_builtin; refine wpList_appendR rfl _ _ 24 24 rfl _ _ rfl rfl (HR1.out _) ?_))
 refine ⟨fun w' => w' = w1, rfl, ?_⟩
 repeat (first | go_big_quiet_skip | go_big_quiet_step (fail))
 refine wpQuiet_nil ?_
 intro wq hwq
 rw [show wq = w1 from hwq]
 clear hwq wq
 go_wp2_with (first | (at_builtin; refine wpList_clearR rfl rfl _ 24 rfl _ rfl (HR2.out _) ?_))
 go_ret
 exact ⟨rfl, HO2.out, HN2.out⟩
end Go.Proofs.YtfiadgdinhmgbaaDoor
