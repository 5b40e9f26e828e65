/- Kids of one's own, split, joined, turned; a kid's cells within its row; a kid put in its place. -/
import Derived.Test.YtfiadgdinhmgbaaDoorHAJ
import Derived.Test.YtfiadgdinhmgbaaDoorHAS
import Derived.Test.YtfiadgdinhmgbaaDoorHAA
namespace Go.Tr
open Go.Proofs.YtfiadgdinhmgbaaDoor
theorem putK_set : ∀ (l : List K) (k : Nat) (n : List UInt8) (u x : T), RiseK l → l[k]? = some (n, u) → putK l n x = l.set k (n, x)
 | [], k, n, u, x, _, h => by simp at h
 | (m, t) :: l, 0, n, u, x, _, h => by
  simp only [List.getElem?_cons_zero, Option.some.injEq, Prod.mk.injEq] at h
  obtain ⟨rfl, rfl⟩ := h
  simp [putK]
 | (m, t) :: l, k + 1, n, u, x, hR, h => by
  simp only [List.getElem?_cons_succ] at h
  obtain ⟨h1, h2⟩ := List.pairwise_cons.1 hR
  have hlt : Op.bytesLess m n = true := h1 (n, u) (List.mem_of_getElem? h)
  have hne : ¬ m = n := fun e => by rw [e, bytesLess_irrefl] at hlt; cases hlt
  have hno : Op.bytesLess n m = false := bytesLess_asymm _ _ hlt
  simp [putK, hne, hno, putK_set l k n u x h2 h]
theorem putK_ins : ∀ (l : List K) (k : Nat) (n : List UInt8) (x : T), SrK l n k k → (∀ y, l[k]? = some y → y.1 ≠ n) → putK l n x = l.take k ++ (n, x) :: l.drop k
 | [], k, n, x, hs, _ => by
  have := hs.top
  simp only [List.length_nil] at this
  obtain rfl : k = 0 := by omega
  simp [putK]
 | (m, t) :: l, 0, n, x, hs, hn => by
  have h1 : Op.bytesLess m n = false := hs.high 0 (m, t) (Nat.le_refl _) rfl
  have hne : ¬ m = n := hn (m, t) rfl
  simp [putK, hne, bytesLess_total m n hne h1]
 | (m, t) :: l, k + 1, n, x, hs, hn => by
  have hlt : Op.bytesLess m n = true := hs.low 0 (m, t) (by omega) rfl
  have hne : ¬ m = n := fun e => by rw [e, bytesLess_irrefl] at hlt; cases hlt
  have hno : Op.bytesLess n m = false := bytesLess_asymm _ _ hlt
  have hs2 : SrK l n k k := ⟨Nat.le_refl _, by have := hs.top; simp at this; omega, fun t y ht hy => hs.low (t + 1) y (by omega) hy, fun t y ht hy => hs.high (t + 1) y (by omega) hy⟩
  simp [putK, hne, hno, putK_ins l k n x hs2 (fun y hy => hn y hy)]
end Go.Tr
namespace Go.Proofs.YtfiadgdinhmgbaaDoor
open Go.RowKit Pl Go.Agg Go.Tr
theorem OwnL.append {base : Nat} {w : World} : ∀ {l m : List K} {ks js : List KdV} {bs cs : List Nat}, OwnL base w ks l bs → OwnL base w js m cs → OwnL base w (ks ++ js) (l ++ m) (bs ++ cs)
 | [], _, [], _, _, _, h, h2 => by
  have h : _ = [] := h
  subst h
  exact h2
 | (_, _) :: _, _, _ :: _, _, _, _, h, h2 => by
  obtain ⟨h1, cs, ds, h3, h4, rfl⟩ := h
  exact ⟨h1, cs, _, h3, OwnL.append h4 h2, by simp⟩
 | [], _, _ :: _, _, _, _, h, _ => h.elim
 | _ :: _, _, [], _, _, _, h, _ => h.elim
theorem OwnL.split {base : Nat} {w : World} : ∀ (k : Nat) {l : List K} {ks : List KdV} {bs : List Nat}, OwnL base w ks l bs → ∃ c1 c2, bs = c1 ++ c2 ∧ OwnL base w (ks.take k) (l.take k) c1 ∧ OwnL base w (ks.drop k) (l.drop k) c2
 | 0, l, ks, bs, h => ⟨[], bs, rfl, rfl, h⟩
 | k + 1, [], [], bs, h => ⟨[], bs, rfl, rfl, h⟩
 | k + 1, (_, _) :: l, _ :: ks, bs, h => by
  obtain ⟨h1, cs, ds, h3, h4, rfl⟩ := h
  obtain ⟨d1, d2, rfl, h5, h6⟩ := OwnL.split k h4
  exact ⟨cs ++ d1, d2, by simp, ⟨h1, cs, d1, h3, h5, rfl⟩, h6⟩
 | k + 1, [], _ :: _, _, h => h.elim
 | k + 1, _ :: _, [], _, h => h.elim
theorem own_leaf (base : Nat) (w : World) : OwnT base w (4, svN, svN) dirT [] := ⟨rfl, Agg.Own.nil _ _ _, [], [], Agg.Own.nil _ _ _, rfl, by simp [svN, ownB, Value.ownBlock]⟩
theorem OwnL.ins {base : Nat} {w : World} {l : List K} {ks : List KdV} {cs : List Nat} (h : OwnL base w ks l cs) (k : Nat) (a : List UInt8) : OwnL base w (ks.take k ++ (a, (4, svN, svN)) :: ks.drop k) (l.take k ++ (a, dirT) :: l.drop k) cs := by
 obtain ⟨c1, c2, rfl, h1, h2⟩ := h.split k
 exact h1.append (⟨rfl, [], c2, own_leaf base w, h2, rfl⟩ : OwnL base w ((a, (4, svN, svN)) :: ks.drop k) ((a, dirT) :: l.drop k) c2)
theorem OwnL.turn {base : Nat} {w : World} {l : List K} {ks : List KdV} {cs : List Nat} (h : OwnL base w ks l cs) {k : Nat} {a : List UInt8} {u : T} (hk : l[k]? = some (a, u)) :
  ∃ y b2 c1 c2, ks[k]? = some (a, y) ∧ OwnT base w y u b2 ∧ cs = c1 ++ (b2 ++ c2) ∧ ∀ {S : Nat → Prop} {W : World}, Only S w W → (∀ j ∈ c1, ¬ S j) → (∀ j ∈ c2, ¬ S j) → ∀ (n' : NdV) (u' : T) (b' : List Nat), OwnT base W n' u' b' → OwnL base W (ks.set k (a, n')) (l.set k (a, u')) (c1 ++ (b' ++ c2)) := by
 obtain ⟨c1, d, rfl, h1, h2⟩ := h.split k
 obtain ⟨hlt, he⟩ := List.getElem?_eq_some_iff.1 hk
 have hlen := (OwnL.reads _ _ _ h).len
 have hlk : k < ks.length := by omega
 rw [List.drop_eq_getElem_cons hlt, he, List.drop_eq_getElem_cons hlk] at h2
 obtain ⟨h3, b2, c2, h4, h5, rfl⟩ := h2
 refine ⟨(ks[k]).2, b2, c1, c2, ?_, h4, rfl, ?_⟩
 ·rw [List.getElem?_eq_getElem hlk, ← h3]
 ·intro S W ho hS1 hS2 n' u' b' hn
  rw [List.set_eq_take_append_cons_drop (l := l), if_pos hlt, List.set_eq_take_append_cons_drop (l := ks), if_pos hlk]
  exact (OwnL.only ho _ _ _ h1 hS1).append (⟨rfl, b', c2, hn, OwnL.only ho _ _ _ h5 hS2, rfl⟩ : OwnL base W ((a, n') :: ks.drop (k + 1)) ((a, u') :: l.drop (k + 1)) (b' ++ c2))
theorem own_kid {base : Nat} {w : World} {v : Value} {ks : List KdV} {k : Nat} {y : KdV} (h : Agg.Own EK base w v ks) (hk : ks[k]? = some y) :
  ∃ g cap xs zs, v = .slice (some ⟨g, 0, none⟩) ks.length cap ∧ ks.length ≤ cap ∧ base ≤ g ∧ Blk w g 51 (xs ++ (ndC y.2 ++ zs)) ∧ xs.size = k * 4 + 1 ∧ ∀ (W : World) (n' : NdV), Blk W g 51 (xs ++ (ndC n' ++ zs)) → Agg.Own EK base W v (ks.set k (y.1, n')) := by
 obtain ⟨hlt, he⟩ := List.getElem?_eq_some_iff.1 hk
 obtain ⟨h0, ⟨rfl, hn⟩ | ⟨g, cap, cur, rfl, hg, hcur, hle, hmx, hsz, htk⟩⟩ := h
 ·omega
 have hsz' : cur.toList.length = cap * 4 := by rw [Array.length_toList]; exact hsz
 have htk' : cur.toList.take (ks.length * 4) = EK.flat ks := htk
 have hks : EK.flat ks = EK.flat (ks.take k) ++ ((kdC y).toList ++ EK.flat (ks.drop (k + 1))) := by
  conv => lhs; rw [← List.take_append_drop k ks]
  rw [EK.flat_append, List.drop_eq_getElem_cons hlt, he]
  rfl
 have hfl : (EK.flat (ks.take k)).length = k * 4 := by rw [EK.flat_length, List.length_take, Nat.min_eq_left (by omega)]; rfl
 have hcl : cur.toList = EK.flat (ks.take k) ++ ((kdC y).toList ++ (EK.flat (ks.drop (k + 1)) ++ cur.toList.drop (ks.length * 4))) := by
  conv => lhs; rw [← List.take_append_drop (ks.length * 4) cur.toList]
  rw [htk', hks]
  simp only [List.append_assoc]
 have hupd : ∀ n' : NdV, EK.flat (ks.set k (y.1, n')) = EK.flat (ks.take k) ++ ((kdC (y.1, n')).toList ++ EK.flat (ks.drop (k + 1))) := fun n' => by
  rw [List.set_eq_take_append_cons_drop, if_pos hlt, EK.flat_append]
  rfl
 refine ⟨g, cap, (EK.flat (ks.take k) ++ [Value.string ⟨y.1.toArray⟩]).toArray, (EK.flat (ks.drop (k + 1)) ++ cur.toList.drop (ks.length * 4)).toArray, rfl, hle, hg, ?_, ?_, ?_⟩
 ·have e : cur = (EK.flat (ks.take k) ++ [Value.string ⟨y.1.toArray⟩]).toArray ++ (ndC y.2 ++ (EK.flat (ks.drop (k + 1)) ++ cur.toList.drop (ks.length * 4)).toArray) := by
   apply Array.toList_inj.1
   conv => lhs; rw [hcl]
   simp [kdC, ndC]
  rw [← e]
  exact hcur
 ·simp [hfl]
 ·intro W n' hb
  refine ⟨EK.flat_length _, .inr ⟨g, cap, _, by rw [List.length_set], hg, hb, by rw [List.length_set]; exact hle, hmx, ?_, ?_⟩⟩
  ·have h1 := congrArg List.length hcl
   simp only [hsz', List.length_append, hfl, Array.length_toList] at h1
   have h2 : (kdC y).size = 4 := rfl
   simp only [Array.size_append, List.size_toArray, List.length_append, hfl, List.length_singleton]
   rw [h2] at h1
   have h3 : (ndC n').size = 3 := rfl
   rw [h3]
   show _ = cap * 4
   omega
  ·rw [List.length_set, hupd]
   show List.take (ks.length * 4) _ = _
   have h1 := congrArg List.length hks
   simp only [EK.flat_length, List.length_append, Array.length_toList, List.length_take, List.length_drop] at h1
   have e : ((EK.flat (ks.take k) ++ [Value.string ⟨y.1.toArray⟩]).toArray ++ (ndC n' ++ (EK.flat (ks.drop (k + 1)) ++ cur.toList.drop (ks.length * 4)).toArray)).toList = (EK.flat (ks.take k) ++ ((kdC (y.1, n')).toList ++ EK.flat (ks.drop (k + 1)))) ++ cur.toList.drop (ks.length * 4) := by
    simp [kdC, ndC]
   rw [e]
   refine List.take_left' ?_
   rw [← hupd, EK.flat_length, List.length_set]
   rfl
end Go.Proofs.YtfiadgdinhmgbaaDoor
