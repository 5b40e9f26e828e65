/- Path{h, n} (Several texts in one.) -/
import Derived.Test.YtdebbmembkbniaaGreatTBA
import Derived.Test.YtdebbmembkbniaaGreatTAC
import Derived.Test.YtdebbmembkbniaaGreatTAA
/-! hash.Of: a tag's and parts' folded digest. -/
namespace Go.Sha
def encP (l : List UInt8) : List UInt8 := Go.Agg.encN l.length ++ l
def hashL (tag : List UInt8) (ls : List (List UInt8)) : List UInt8 := encP tag ++ ls.flatMap encP
def hashP (tag : List UInt8) (ls : List (List UInt8)) : List (List UInt8) := [Go.Agg.encN tag.length, tag] ++ ls.flatMap fun b => [Go.Agg.encN b.length, b]
theorem hashP_flatten (tag : List UInt8) (ls : List (List UInt8)) : (hashP tag ls).flatten = hashL tag ls := by
 unfold hashP hashL encP
 rw [List.flatten_append]
 congr 1
 ·simp
 ·induction ls with
  | nil => rfl
  | cons b ls ih => simp [ih]
theorem hashP_length (tag : List UInt8) (ls : List (List UInt8)) : (hashP tag ls).length = 2 * ls.length + 2 := by
 unfold hashP
 rw [List.length_append]
 have : (ls.flatMap fun b => [Go.Agg.encN b.length, b]).length = 2 * ls.length := by
  induction ls with
  | nil => rfl
  | cons b ls ih => simp only [List.flatMap_cons, List.length_append, List.length_cons, List.length_nil, ih]; omega
 rw [this]; simp; omega
theorem hashP_snoc (tag : List UInt8) (ls : List (List UInt8)) (b : List UInt8) : hashP tag (ls ++ [b]) = hashP tag ls ++ [Go.Agg.encN b.length, b] := by
 simp [hashP, List.flatMap_append]
theorem flat_le : ∀ {ls : List (List UInt8)} {k : Nat} {b : List UInt8}, ls[k]? = some b → (encP b).length ≤ (ls.flatMap encP).length
 | [], k, b, h => by simp at h
 | c :: ls, 0, b, h => by
  obtain rfl : c = b := by simpa using h
  rw [List.flatMap_cons, List.length_append]; omega
 | c :: ls, k + 1, b, h => by
  have := flat_le (ls := ls) (k := k) (b := b) (by simpa using h)
  rw [List.flatMap_cons, List.length_append]; omega
theorem hashP_le (tag : List UInt8) {ls : List (List UInt8)} {k : Nat} {b : List UInt8} (h : ls[k]? = some b) : b.length ≤ (hashL tag ls).length := by
 have h2 := flat_le h
 have h3 : (encP b).length = (Go.Agg.encN b.length).length + b.length := by simp [encP]
 unfold hashL
 rw [List.length_append]
 omega
end Go.Sha
namespace Go.Proofs.YtdebbmembkbniaaGreat
open Go.RowKit Pl Go.Agg Go.Sha
def TypedB (w : World) (x : Value) (b : List UInt8) : Prop := SliceOf EB w x b ∧ (∀ k, x.ownBlock = some k → ∃ cs fr, w.heap[k]? = some (.cells cs 5 fr)) ∧ ∀ p n c, x = .slice p n c → n ≤ c
theorem TypedB.below {w w' : World} {x : Value} {b : List UInt8} (h : TypedB w x b) (hb : Below w.heap.size w w') : TypedB w' x b := by
 obtain ⟨h1, h2, h3⟩ := h
 exact ⟨h1.below hb, fun k hk => by obtain ⟨cs, fr, h⟩ := h2 k hk; exact ⟨cs, fr, Agg.keep' hb h⟩, h3⟩
theorem TypedB.keep {w w' : World} {x : Value} {b : List UInt8} (h : TypedB w x b) (hs : w.heap.size ≤ w'.heap.size) (hk : ∀ (g : Nat) (cs : Array Value) (fr : Nat × Nat), w.heap[g]? = some (Obj.cells cs 5 fr) → w'.heap[g]? = some (Obj.cells cs 5 fr)) : TypedB w' x b := by
 obtain ⟨h1, h2, h3⟩ := h
 refine ⟨?_, fun k hk' => by obtain ⟨cs, fr, h⟩ := h2 k hk'; exact ⟨cs, fr, hk _ _ _ h⟩, h3⟩
 rcases h1 with h | ⟨p, cap, rfl, hp, h⟩
 ·exact .inl h
 ·refine .inr ⟨p, cap, rfl, Nat.lt_of_lt_of_le hp hs, fun j u hj => ?_⟩
  obtain ⟨cs, fr, hc⟩ := h2 p.block rfl
  rw [← h j u hj]
  refine World.cell?_of_block ?_
  rw [add_block, hk _ _ _ hc, hc]
theorem TypedB.pushed {w w' : World} {x u : Value} {b : List UInt8} {B : Nat} (h : TypedB w x b) (hp : Pushed EBB B w w' u) : TypedB w' x b := h.keep hp.size fun g cs fr hc => hp.blk g _ _ _ (by show 5 ≠ 23; decide) hc
theorem TypedB.of_own {base : Nat} {w : World} {x : Value} {b : List UInt8} (h : Own EB base w x b) : TypedB w x b := by
 refine ⟨h.slice, fun k hk => ?_, ?_⟩
 ·obtain ⟨_, cur, hc⟩ := h.block k hk
  exact ⟨_, _, hc⟩
 ·intro p n c e
  obtain ⟨_, ⟨rfl, _⟩ | ⟨g, cap, cur, rfl, _, _, hnc, _⟩⟩ := h
  ·injection e with _ h2 h3; omega
  ·injection e with _ h2 h3; omega
theorem TypedB.of_new {w w' : World} {x : Value} {b : List UInt8} (h : NewBytes w w' x b) : TypedB w' x b := by
 refine ⟨h.slice, ?_, ?_⟩
 ·obtain ⟨cap, fr, rfl, hc, hb, _⟩ := h
  intro k hk
  obtain rfl : w.heap.size = k := by simpa [Value.ownBlock] using hk
  exact ⟨_, _, hb⟩
 ·obtain ⟨cap, fr, rfl, hc, hb, _⟩ := h
  intro p n c e
  injection e with _ h2 h3; omega
structure PartsK (w0 w : World) (vs : List SV) (ls : List (List UInt8)) : Prop where
 len : vs.length = ls.length
 part : ∀ (k : Nat) (s : SV) (b : List UInt8), vs[k]? = some s → ls[k]? = some b → (SliceOf EB w0 s.1 b ∧ ∀ p n c, s.1 = .slice p n c → n ≤ c) ∨ TypedB w s.1 b
theorem PartsK.below {w0 w w' : World} {vs : List SV} {ls : List (List UInt8)} (h : PartsK w0 w vs ls) (hb : Below w.heap.size w w') : PartsK w0 w' vs ls := ⟨h.len, fun k s b h1 h2 => (h.part k s b h1 h2).imp id fun h => h.below hb⟩
theorem PartsK.pushed {w0 w w' : World} {u : Value} {B : Nat} {vs : List SV} {ls : List (List UInt8)} (h : PartsK w0 w vs ls) (hp : Pushed EBB B w w' u) : PartsK w0 w' vs ls := ⟨h.len, fun k s b h1 h2 => (h.part k s b h1 h2).imp id fun h => h.pushed hp⟩
theorem PartsK.add {w0 w : World} {vs : List SV} {ls : List (List UInt8)} (h : PartsK w0 w vs ls) (s t : SV) (a b : List UInt8) (hs : (SliceOf EB w0 s.1 a ∧ ∀ p n c, s.1 = .slice p n c → n ≤ c) ∨ TypedB w s.1 a) (ht : (SliceOf EB w0 t.1 b ∧ ∀ p n c, t.1 = .slice p n c → n ≤ c) ∨ TypedB w t.1 b) : PartsK w0 w (vs ++ [s, t]) (ls ++ [a, b]) := by
 refine ⟨by simp [h.len], fun k x y h1 h2 => ?_⟩
 by_cases hk : k < vs.length
 ·rw [List.getElem?_append_left hk] at h1
  rw [List.getElem?_append_left (by rw [← h.len]; exact hk)] at h2
  exact h.part k x y h1 h2
 ·rw [List.getElem?_append_right (by omega)] at h1
  rw [List.getElem?_append_right (by rw [← h.len]; omega), ← h.len] at h2
  obtain ⟨j, hj⟩ : ∃ j, j = k - vs.length := ⟨_, rfl⟩
  rw [← hj] at h1 h2
  match j, h1, h2 with
  | 0, h1, h2 => simp at h1 h2; subst h1 h2; exact hs
  | 1, h1, h2 => simp at h1 h2; subst h1 h2; exact ht
  | j + 2, h1, h2 => simp at h1
theorem PartsK.nil (w0 w : World) : PartsK w0 w [] [] := ⟨rfl, fun k s b h => by simp at h⟩
theorem PartsK.at_ {w0 w : World} {v : Value} {vs : List SV} {ls : List (List UInt8)} (h : PartsK w0 w vs ls) (hr : SliceOf EBB w v vs) (hb : Below w0.heap.size w0 w) : PartsAt w v vs ls := ⟨hr, h.len, fun k s b h1 h2 => by
 rcases h.part k s b h1 h2 with ⟨h, hc⟩ | h
 ·exact ⟨h.below hb, hc⟩
 ·exact ⟨h.1, h.2.2⟩⟩
theorem wpList_slice2O {P : Program} {α : Type} {E : Elem P α} {ops : Array Oper} {rest : List Oper} {o : Oper} {a : Act} {w : World} {Q : Exit → Act → World → Prop} {base : Nat} (hg : o.guard = none) (x y : Operand) (ho : o.op = .buildSlice E.st 2 #[(0, x), (1, y)]) (vx vy : α) (hx : a.eval x = E.val vx) (hy : a.eval y = E.val vy) (hbase : base ≤ w.heap.size)
  (h : ∀ v' w', Own E base w' v' [vx, vy] → Below w.heap.size w w' → wpList P ops Q rest (a.put o.dst v') w') : wpList P ops Q (o :: rest) a w := by
 refine wpList_val hg (v := .slice (some ⟨w.heap.size, 0, none⟩) 2 2) (w' := w.alloc (.cells ((E.val vx).cells ++ (E.val vy).cells) E.ty)) (by simp [execOp, ho, hx, hy, run_slice_two])
  (h _ _ ?_ ((Below.refl _ _).alloc (Nat.le_refl _) _))
 have hsx := E.size vx
 have hsy := E.size vy
 have e : E.flat [vx, vy] = ((E.val vx).cells ++ (E.val vy).cells).toList := by simp [Elem.flat, Elem.cs]
 have e2 : ((E.val vx).cells ++ (E.val vy).cells).toList.length = 2 * E.n := by rw [Array.toList_append, List.length_append, Array.length_toList, Array.length_toList, hsx, hsy]; omega
 refine ⟨by rw [e, e2]; rfl, .inr ⟨_, 2, _, rfl, hbase, heap_alloc_new w _, Nat.le_refl _, by simp [maxLen], by rw [Array.size_append, hsx, hsy]; omega, ?_⟩⟩
 rw [e, List.take_of_length_le (by rw [e2]; exact Nat.le_refl _)]
theorem str_lenH (s : List UInt8) (W : World) : (Builtin.len_ #[9] 3 #[.string ⟨s.toArray⟩]).run Tryz.prog W = .ok (.int .i64 (s.length : Int)) W := str_len' s W
theorem own_sv {w : World} {x : Value} {b : List UInt8} {base : Nat} (h : Own EB base w x b) : ∃ s : SV, s.1 = x := by
 obtain ⟨p, c, rfl⟩ := h.slice.form
 exact ⟨⟨_, _, _, _, rfl⟩, rfl⟩
theorem slice_sv {w : World} {x : Value} {b : List UInt8} (h : SliceOf EB w x b) : ∃ s : SV, s.1 = x := by
 obtain ⟨p, c, rfl⟩ := h.form
 exact ⟨⟨_, _, _, _, rfl⟩, rfl⟩
set_option maxRecDepth 100000 in
set_option maxHeartbeats 16000000 in
theorem of_any (tag : List UInt8) (v : Value) (vs : List SV) (ls : List (List UInt8)) (hlen : (hashL tag ls).length < 100000000) (hvn : vs.length ≤ 100000) (w : World) (hp : PartsAt w v vs ls) :
  Calls Tryz.prog 83 #[.string ⟨tag.toArray⟩, v] w fun e w' => e = .returned (.agg (hC (sumF (hashL tag ls)))) ∧ Below w.heap.size w w' := by
 have HPT := Lib.hid hp
 have hlv := fun W => parts_len hp.row W
 have hvl := hp.len
 have hlt := str_lenH tag
 have HTL := Lib.hid (show tag.length ≤ 1099511627776 by have h : (hashL tag ls).length = (encP tag).length + (ls.flatMap encP).length := List.length_append; have h2 : (encP tag).length = (encN tag.length).length + tag.length := List.length_append; omega)
 clear hp
 go_enter Tryz.func83, Tryz.ntmps83
 go_wp2_with (first | (with_reducible refine wpList_zero rfl 43 rfl (hC (List.replicate 20 0)) hash_zero1 ?_; intro g2 w1 hb hx hg; have HA1 := Lib.hid hb; have HX1 := Lib.hid hx; have HG2 := Lib.hid hg; clear hb hx hg))
 refine (hlength_any tag.length HTL.out w1).mono ?_
 rintro e w2 ⟨v2, rfl, ho2, hx2⟩
 obtain ⟨s2, hs2⟩ := own_sv ho2
 have HP2 := Lib.hid (TypedB.of_own ho2)
 have HA2 := Lib.hid (HA1.out.below hx2)
 have HX2 := Lib.hid (belowThen HX1.out (Nat.le_refl _) hx2)
 rw [← hs2] at HP2 ⊢
 clear hx2 ho2 hs2
 go_wp2_with (first | (with_reducible refine wpList_toBytes tag _ rfl rfl rfl ?_; intro v3 w3 hn3 hx3; obtain ⟨s3, hs3⟩ := slice_sv hn3.slice; have HT3 := Lib.hid (TypedB.of_new hn3); have HP3 := Lib.hid (HP2.out.below hx3); have HA3 := Lib.hid (HA2.out.below hx3); have HX3 := Lib.hid (belowThen HX2.out (Nat.le_refl _) hx3); rw [← hs3] at HT3 ⊢; clear hn3 hx3 hs3) | (refine wpList_slice2O (E := EBB) (base := w3.heap.size) rfl _ _ rfl s2 s3 rfl rfl (Nat.le_refl _) ?_; intro v4 w4 ho4 hx4; have HO4 := Lib.hid (ho4.lower HX3.out.size); have HA4 := Lib.hid (HA3.out.below hx4); have HX4 := Lib.hid (belowThen HX3.out (Nat.le_refl _) hx4); have HK4 := Lib.hid ((PartsK.nil w w4).add s2 s3 _ _ (.inr (HP3.out.below hx4)) (.inr (HT3.out.below hx4))); clear ho4 hx4))
 go_loopw [5, 16] (fun t i wr => ∃ (k : Nat) (us : List SV), k ≤ vs.length ∧ i = .int .i64 (k : Int) ∧ Own EBB w.heap.size wr t us ∧ PartsK w wr us (hashP tag (ls.take k)) ∧ Blk wr g2 43 (hC (List.replicate 20 0)) ∧ Below w.heap.size w wr) (fun _ i _ => vs.length - (intOf i).toNat)
 case atStart => exact ⟨0, [s2, s3], by omega, rfl, HO4.out, by simpa [hashP] using HK4.out, HA4.out, HX4.out⟩
 case round =>
  obtain ⟨wr1, rfl⟩ : ∃ y : World, y = wr := ⟨_, rfl⟩
  obtain ⟨k, us, hk, rfl, ho, hpk, hbk, hw⟩ := hrel
  have HO := Lib.hid ho
  have HPK := Lib.hid hpk
  have HBK := Lib.hid hbk
  have HW := Lib.hid hw
  have HUL := Lib.hid (show us.length = 2 * k + 2 by have := hpk.len; rw [hashP_length, List.length_take] at this; omega)
  clear hpk hbk hw ho
  by_cases hlt : k < vs.length
  ·have hd1 : decide ((k : Int) < (vs.length : Int)) = true := by simp; omega
   obtain ⟨sv, hsv⟩ : ∃ y, vs[k]? = some y := ⟨_, List.getElem?_eq_getElem hlt⟩
   obtain ⟨b, hb⟩ : ∃ y, ls[k]? = some y := ⟨_, List.getElem?_eq_getElem (by omega)⟩
   obtain ⟨p, hadr, hld⟩ := part_at (SliceOf.below HPT.out.row HW.out) k sv hsv
   have HPB := Lib.hid (HPT.out.part k sv b hsv hb)
   have hlb := fun W => bytes_len HPB.out.1 W
   have HTK := Lib.hid (show hashP tag (ls.take (k + 1)) = hashP tag (ls.take k) ++ [encN b.length, b] by rw [List.take_add_one, hb, ← hashP_snoc]; rfl)
   have HBL := Lib.hid (show b.length ≤ 1099511627776 by have := hashP_le tag hb; omega)
   have HLD := Lib.hid hld
   clear hsv hb hld
   go_wp2_with (first | (with_reducible refine wpList_loadL HLD.out rfl _ rfl rfl ?_))
   refine (hlength_any b.length HBL.out wr1).mono ?_
   rintro e w5 ⟨v5, rfl, ho5, hx5⟩
   obtain ⟨s5, hs5⟩ := own_sv ho5
   have HP5 := Lib.hid (TypedB.of_own ho5)
   have HK5 := Lib.hid (HPK.out.below hx5)
   have HO5 := Lib.hid (HO.out.below hx5)
   have HA5 := Lib.hid (HBK.out.below hx5)
   have HX5 := Lib.hid (belowThen HW.out (Nat.le_refl _) hx5)
   rw [← hs5] at HP5 ⊢
   clear hx5 ho5 hs5
   go_wp2_with (first | (refine wpList_push2 (E := EBB) (base := w.heap.size) rfl rfl 25 rfl _ _ rfl _ rfl s5 sv rfl rfl (fun _ => rfl) (by simp) HO5.out (by have := HUL.out; omega) (by decide) HX5.out.size ?_; intro u6 v6 w6 ho6 hp6; have HO6 := Lib.hid ho6; have HK6 := Lib.hid ((HK5.out.pushed hp6).add s5 sv _ _ (.inr (HP5.out.pushed hp6)) (.inl HPB.out)); have HA6 := Lib.hid (hp6.blk g2 43 _ _ (by show 43 ≠ 23; decide) HA5.out); have HX6 := Lib.hid (HX5.out.trans (hp6.below w.heap.size (Nat.le_refl _) HX5.out.size)); clear ho6 hp6))
   go_roundw
   case rel => exact ⟨k + 1, us ++ [s5, sv], by omega, by go_num, HO6.out, by rw [HTK.out]; exact HK6.out, HA6.out, HX6.out⟩
   case measure => simp [intOf]; omega
  ·obtain rfl : k = vs.length := by omega
   have HPA := Lib.hid (show PartsAt wr1 _ us (hashP tag ls) by have := HPK.out; rw [List.take_of_length_le (by omega)] at this; exact this.at_ HO.out.slice HW.out)
   go_wp2_with fail
   refine (hsum_any _ us (hashP tag ls) (by rw [hashP_flatten]; exact hlen) (by have := HUL.out; omega) wr1 HPA.out).mono ?_
   rintro e w6 ⟨rfl, hx6⟩
   rw [hashP_flatten]
   obtain ⟨dg, hdg⟩ : ∃ q, digest (hashL tag ls) = q := ⟨_, rfl⟩
   have hdl : dg.length = 32 := by rw [← hdg]; exact digest_length _
   have HDG := Lib.hid hdg
   have HA6 := Lib.hid (HBK.out.below hx6)
   have HW6 := Lib.hid (belowThen HW.out (Nat.le_refl _) hx6)
   rw [hdg]
   clear hx6 hdg
   go_wp2_with fail
   refine (fold_any dg hdl w6).mono ?_
   rintro e w7 ⟨rfl, hx7⟩
   have HA7 := Lib.hid (HA6.out.below hx7)
   have HW7 := Lib.hid (belowThen HW6.out (Nat.le_refl _) hx7)
   obtain ⟨fs, hfs⟩ : ∃ q, foldG dg 32 = q := ⟨_, rfl⟩
   have hfl : fs.length = 20 := by rw [← hfs]; exact foldG_length _ _
   have HFS := Lib.hid (show fs = sumF (hashL tag ls) by rw [← hfs, sumF, HDG.out])
   rw [hfs]
   clear hx7 hfs
   go_wp2_with (first | ((with_reducible refine wpList_put rfl rfl 43 _ _ rfl g2 (hC fs) (hC (List.replicate 20 0)) rfl rfl HA7.out (hash_info1 _ hfl) (by rw [hC_size, hC_size, hfl, List.length_replicate]) (hC_one1 _) ?_); intro w8 hb8 hx8 _ _; have HB8 := Lib.hid hb8; have HX8 := Lib.hid (HW7.out.trans (hx8.mono HG2.out)); clear hb8 hx8))
   exact post_row rfl rfl HB8.out Tryz.underlying43 rfl (hash_info1 _ hfl) rfl ⟨by rw [HFS.out], HX8.out⟩
end Go.Proofs.YtdebbmembkbniaaGreat
/-! Path{h, n} -/
namespace Go.Proofs.YtdebbmembkbniaaGreat
open Go.RowKit Pl Go.Agg
theorem pathBuilt : ∀ parts, Tryz.prog.built 48 parts = Instr.fill (#[(0, 20), (20, 1)][·]?) (pC z20 []) parts := fun _ => by kernel_rfl
theorem pC_splice0 (h h' n : List UInt8) (hl : h.length = 20) (hl' : h'.length = 20) : Go.Agg.splice (pC h n) 0 (hC h') = pC h' n := pC_setHash h h' n hl hl'
theorem pC_splice1 (h n n' : List UInt8) (hl : h.length = 20) : Go.Agg.splice (pC h n) 20 #[.string ⟨n'.toArray⟩] = pC h n' := by
 apply Array.ext'
 simp [Go.Agg.splice, pC, hC, Lib.byteCells, hl]
theorem build_path (h n : List UInt8) (hl : h.length = 20) (w : World) : (Instr.build 48 #[(0, .agg (hC h)), (1, .string ⟨n.toArray⟩)]).run Tryz.prog w = .ok (.agg (pC h n)) w := by
 refine run_build w _ _ _ ?_
 rw [pathBuilt]
 rw [fill_cons (off := 0) (size := 20) rfl (by simp [Value.cells, hC_size, hl]) (by rw [pC_size, z20_length]; omega)]
 rw [fill_cons (off := 20) (size := 1) rfl rfl (by rw [Go.Agg.splice_size _ _ _ (by simp [Value.cells, hC_size, pC_size, z20_length, hl]), pC_size, z20_length]; omega)]
 rw [fill_nil]
 exact congrArg some (by simp only [Value.cells]; rw [pC_splice0 _ _ _ z20_length hl, pC_splice1 _ _ _ hl])
end Go.Proofs.YtdebbmembkbniaaGreat
