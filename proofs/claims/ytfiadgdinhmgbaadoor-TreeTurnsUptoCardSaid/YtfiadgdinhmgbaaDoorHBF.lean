/- Towards tree.Take: a tree of one's own with one node held open; a kid taken out of a row. -/
import Derived.Test.YtfiadgdinhmgbaaDoorHAV
import Derived.Test.YtfiadgdinhmgbaaDoorHBE
namespace Go.Proofs.YtfiadgdinhmgbaaDoor
open Go.RowKit Pl Go.Agg Go.Tr
theorem turnK_set : ∀ (l : List K) (k : Nat) (n : List UInt8) (u : T) (f : T → T), RiseK l → l[k]? = some (n, u) → turnK l n f = l.set k (n, f u)
 | [], _, _, _, _, _, h => by simp at h
 | y :: l, 0, n, u, f, hU, h => by
  simp only [List.getElem?_cons_zero, Option.some.injEq] at h
  subst h
  have h2 := (List.pairwise_cons.1 hU).1
  simp only [turnK, List.map_cons, if_true, List.set_cons_zero, List.cons.injEq, true_and]
  refine (List.map_congr_left fun z hz => ?_).trans (List.map_id l)
  have h3 := h2 z hz
  rw [if_neg (fun e => by rw [e] at h3; exact absurd h3 (by simp [bytesLess_irrefl])), id]
 | y :: l, k + 1, n, u, f, hU, h => by
  rw [List.getElem?_cons_succ] at h
  have h2 := (List.pairwise_cons.1 hU).1 _ (List.mem_of_getElem? h)
  have ih := turnK_set l k n u f (List.pairwise_cons.1 hU).2 h
  have hne : y.1 ≠ n := fun e => by rw [e] at h2; exact absurd h2 (by simp [bytesLess_irrefl])
  simp only [turnK, List.map_cons, if_neg hne, List.set_cons_succ, List.cons.injEq, true_and] at ih ⊢
  exact ih
theorem takeK_at : ∀ (l : List K) (k : Nat) (n : List UInt8) (u : T), RiseK l → l[k]? = some (n, u) → takeK l n = l.take k ++ l.drop (k + 1)
 | [], _, _, _, _, h => by simp at h
 | y :: l, 0, n, u, hU, h => by
  simp only [List.getElem?_cons_zero, Option.some.injEq] at h
  subst h
  have h2 := (List.pairwise_cons.1 hU).1
  simp only [takeK, List.filter_cons, decide_true, Bool.not_true, Bool.false_eq_true, if_false, List.take_zero, List.nil_append, Nat.zero_add, List.drop_succ_cons, List.drop_zero]
  refine List.filter_eq_self.2 fun z hz => ?_
  have h3 := h2 z hz
  simp only [Bool.not_eq_true', decide_eq_false_iff_not]
  intro e
  rw [e] at h3; exact absurd h3 (by simp [bytesLess_irrefl])
 | y :: l, k + 1, n, u, hU, h => by
  rw [List.getElem?_cons_succ] at h
  have h2 := (List.pairwise_cons.1 hU).1 _ (List.mem_of_getElem? h)
  have ih := takeK_at l k n u (List.pairwise_cons.1 hU).2 h
  have hne : y.1 ≠ n := fun e => by rw [e] at h2; exact absurd h2 (by simp [bytesLess_irrefl])
  simp only [takeK, List.filter_cons, hne, decide_false, Bool.not_false, if_true, List.take_succ_cons, List.cons_append, List.drop_succ_cons, List.cons.injEq, true_and] at ih ⊢
  exact ih
def HoleR (base g0 : Nat) (W0 : World) (g : Nat) (ty : TypeId) (xs zs : Array Value) (bs : List Nat) (F : T → T) : Prop :=
 ∀ (W' : World) (n' : NdV) (t' : T) (b' : List Nat), Only (fun j => j = g ∨ j ∈ bs) W0 W' → Blk W' g ty (xs ++ (ndC n' ++ zs)) → OwnT base W' n' t' b' → (g :: b').Nodup → (∀ j ∈ b', j ∈ bs) → ∃ n'', Blk W' g0 26 (ndC n'') ∧ OwnN base W' n'' (F t')
theorem HoleR.start (base g0 : Nat) (W0 : World) (bs : List Nat) : HoleR base g0 W0 g0 26 #[] #[] bs id := fun W' n' t' b' _ hb ht hn _ =>
 ⟨n', by simpa using hb, b', ht, (List.nodup_cons.1 hn).2⟩
theorem HoleR.below {base g0 g : Nat} {W0 W1 : World} {ty : TypeId} {xs zs : Array Value} {bs : List Nat} {F : T → T} (h : HoleR base g0 W0 g ty xs zs bs F) (hx : Below W0.heap.size W0 W1) : HoleR base g0 W1 g ty xs zs bs F :=
 fun W' n' t' b' ho => h W' n' t' b' ((Only.of_below hx).then2 ho)
theorem hole_step {base g0 g : Nat} {W : World} {ty : TypeId} {xs zs : Array Value} {n : NdV} {bs : List Nat} {F : T → T} {b : List UInt8} {kl : List K} {k : Nat} {a : List UInt8} {u : T} {kn : Int}
  (hR : HoleR base g0 W g ty xs zs bs F) (hb : Blk W g ty (xs ++ (ndC n ++ zs))) (ht : OwnT base W n (.mk kn b kl) bs) (hnd : (g :: bs).Nodup) (hk : kl[k]? = some (a, u)) :
  ∃ gk cap m xk zk y b2, n.2.2.1 = .slice (some ⟨gk, 0, none⟩) m cap ∧ k < m ∧ base ≤ gk ∧ Blk W gk 51 (xk ++ (ndC y ++ zk)) ∧ xk.size = k * 4 + 1 ∧ OwnT base W y u b2 ∧ (gk :: b2).Nodup ∧ HoleR base g0 W gk 51 xk zk b2 (fun t' => F (.mk kn b (kl.set k (a, t')))) := by
 obtain ⟨nk, nb, nks⟩ := n
 have hrg := OwnT.range _ _ _ ht
 have hlt := hb.lt
 obtain ⟨hkk, hby, ks, cs, hks, hkl, rfl⟩ := ht
 obtain ⟨y, b2, c1, c2, hyk, hyt, rfl, hturn⟩ := hkl.turn hk
 obtain ⟨gk, cap, xk, zk, hv, hcp, hgb, hbk, hxk, hupd⟩ := own_kid hks hyk
 have hvg : ownB nks.1 = [gk] := by rw [hv]; rfl
 rw [show ((nk, nb, nks) : NdV).2.1 = nb from rfl, show ((nk, nb, nks) : NdV).2.2 = nks from rfl, hvg] at hnd hrg
 have hcount := List.nodup_iff_count.1 hnd
 have hS : ∀ j, (j = gk ∨ j ∈ b2) → j ≠ g ∧ j ∉ ownB nb.1 ∧ j ∉ c1 ∧ j ∉ c2 := fun j h => by
  have hc := hcount j
  simp only [List.count_cons, List.count_append, List.count_nil] at hc
  have key : ∀ L : List Nat, List.count j L = 0 → j ∉ L := fun L h => List.count_eq_zero.1 h
  have hpos : 0 < (if gk == j then 1 else 0) + List.count j b2 := by
   rcases h with rfl | h
   ·simp only [beq_self_eq_true, if_true]; omega
   ·have := List.count_pos_iff.2 h; omega
  refine ⟨fun e => ?_, key _ (by omega), key _ (by omega), key _ (by omega)⟩
  have hg1 : (if (g == j) = true then 1 else 0) = 1 := by simp [e]
  omega
 refine ⟨gk, cap, ks.length, xk, zk, y, b2, hv, (List.getElem?_eq_some_iff.1 hyk).1, hgb, hbk, hxk, hyt, ?_, ?_⟩
 ·refine List.nodup_iff_count.2 fun j => ?_
  have h := hcount j
  simp only [List.count_cons, List.count_append, List.count_nil] at h ⊢
  omega
 ·intro W' n' t' b' ho hb' ht' hnd' hm'
  refine hR W' (nk, nb, nks) (.mk kn b (kl.set k (a, t'))) (ownB nb.1 ++ (ownB nks.1 ++ (c1 ++ (b' ++ c2)))) (ho.mono fun i _ h => ?_) (Agg.Blk.keepO hb ho (fun h => (hS g h).1 rfl)) ⟨hkk, ?_, _, _, hupd W' n' hb', ?_, rfl⟩ ?_ ?_
  ·right
   rw [show ((nk, nb, nks) : NdV).2.1 = nb from rfl, show ((nk, nb, nks) : NdV).2.2 = nks from rfl, hvg]
   rcases h with rfl | h
   ·simp
   ·simp [h]
  ·exact own_stays hby ho fun j hj h => (hS j h).2.1 hj
  ·exact hturn ho (fun j hj h => (hS j h).2.2.1 hj) (fun j hj h => (hS j h).2.2.2 hj) n' t' b' ht'
  ·rw [hvg]
   refine nodup_up (bx := []) (N := W.heap.size) (by rw [List.append_nil]; exact hnd) (fun j hj => ?_) hnd' (fun j hj => .inl (hm' j hj))
   rw [List.append_nil] at hj
   rcases List.mem_cons.1 hj with rfl | hj
   ·exact hlt
   ·exact (hrg j hj).2
  ·intro j hj
   simp only [List.mem_append] at hj ⊢
   rcases hj with h | h | h | h | h
   ·simp [h]
   ·simp [h]
   ·simp [h]
   ·simp [hm' j h]
   ·simp [h]
theorem hole_take {base g0 g : Nat} {W W1 W2 : World} {ty : TypeId} {xs zs : Array Value} {n : NdV} {vk : SV} {bs cs : List Nat} {F : T → T} {kn : Int} {b : List UInt8} {kl : List K} {ks : List KdV} {k : Nat}
  (hR : HoleR base g0 W g ty xs zs bs F) (hb : Blk W g ty (xs ++ (ndC n ++ zs))) (hkk : n.1 = kn) (hby : Agg.Own EB base W n.2.1.1 b) (hkl : OwnL base W ks kl cs) (hbs : bs = ownB n.2.1.1 ++ (ownB n.2.2.1 ++ cs)) (hnd : (g :: bs).Nodup)
  (hv : ownB vk.1 = ownB n.2.2.1) (hlt : k < kl.length) (h1 : Only (fun j => j ∈ ownB n.2.2.1) W W1) (hown : Agg.Own EK base W1 vk.1 (ks.take k ++ ks.drop (k + 1))) (h2 : Only (· = g) W1 W2) (hb2 : Blk W2 g ty (xs ++ (ndC (n.1, n.2.1, vk) ++ zs))) :
  ∃ n'', Blk W2 g0 26 (ndC n'') ∧ OwnN base W2 n'' (F (.mk kn b (kl.take k ++ kl.drop (k + 1)))) := by
 subst hbs
 obtain ⟨c1, d, rfl, hl1, hl2⟩ := hkl.split k
 have hlen := (OwnL.reads _ _ _ hkl).len
 have hlk : k < ks.length := by omega
 rw [List.drop_eq_getElem_cons hlt, List.drop_eq_getElem_cons hlk] at hl2
 have hl2' : OwnL base W (ks[k] :: ks.drop (k + 1)) (((kl[k]).1, (kl[k]).2) :: kl.drop (k + 1)) d := hl2
 obtain ⟨h3, b2, c2, h4, h5, rfl⟩ := hl2'
 have hcount := List.nodup_iff_count.1 hnd
 have hS : ∀ j, (j = g ∨ j ∈ ownB n.2.2.1) → j ∉ ownB n.2.1.1 ∧ j ∉ c1 ∧ j ∉ c2 := fun j h => by
  have hc := hcount j
  simp only [List.count_cons, List.count_append] at hc
  have key : ∀ L : List Nat, List.count j L = 0 → j ∉ L := fun L h => List.count_eq_zero.1 h
  have hpos : 0 < (if g == j then 1 else 0) + List.count j (ownB n.2.2.1) := by
   rcases h with rfl | h
   ·simp only [beq_self_eq_true, if_true]; omega
   ·have := List.count_pos_iff.2 h; omega
  exact ⟨key _ (by omega), key _ (by omega), key _ (by omega)⟩
 have hgv : g ∉ ownB n.2.2.1 := fun h => by
  have hc := hcount g
  simp only [List.count_cons, List.count_append, beq_self_eq_true, if_true] at hc
  have := List.count_pos_iff.2 h
  omega
 have hO : Only (fun j => j = g ∨ j ∈ ownB n.2.2.1) W W2 := (h1.mono fun i _ h => .inr h).then2 (h2.mono fun i _ h => .inl h)
 refine hR W2 (n.1, n.2.1, vk) (.mk kn b (kl.take k ++ kl.drop (k + 1))) (ownB n.2.1.1 ++ (ownB vk.1 ++ (c1 ++ c2))) (hO.mono fun i _ h => ?_) hb2 ⟨hkk, ?_, ks.take k ++ ks.drop (k + 1), c1 ++ c2, ?_, ?_, rfl⟩ ?_ ?_
 ·rcases h with h | h
  ·exact .inl h
  ·exact .inr (by simp [h])
 ·exact own_stays hby hO fun j hj h => (hS j h).1 hj
 ·exact own_stays hown h2 fun j hj e => hgv (by rw [← e, ← hv]; exact hj)
 ·exact (OwnL.only hO _ _ _ hl1 fun j hj h => (hS j h).2.1 hj).append (OwnL.only hO _ _ _ h5 fun j hj h => (hS j h).2.2 hj)
 ·rw [hv]
  refine List.nodup_iff_count.2 fun j => ?_
  have h := hcount j
  simp only [List.count_cons, List.count_append] at h ⊢
  omega
 ·intro j hj
  rw [hv] at hj
  simp only [List.mem_append] at hj ⊢
  rcases hj with h | h | h | h <;> simp [h]
end Go.Proofs.YtfiadgdinhmgbaaDoor
