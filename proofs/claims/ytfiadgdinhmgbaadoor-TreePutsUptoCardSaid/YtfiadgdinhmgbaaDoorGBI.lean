/- spenceref08.nodes: how many nodes, if all are right. No program in sight. (Several texts in one.) -/
import Derived.Test.YtfiadgdinhmgbaaDoorGAJ
import Derived.Test.YtfiadgdinhmgbaaDoorGAI
import Derived.Test.YtfiadgdinhmgbaaDoorGAF
import Derived.Test.YtfiadgdinhmgbaaDoorGAQ
import Derived.Test.YtfiadgdinhmgbaaDoorGAE
import Derived.Test.YtfiadgdinhmgbaaDoorGAR
import Derived.Test.YtfiadgdinhmgbaaDoorGAD
import Derived.Test.YtfiadgdinhmgbaaDoorGAH
import Derived.Test.YtfiadgdinhmgbaaDoorGAA
/-! spencelaw09.size: how great a tree is, up to a bound. -/
namespace Go.Tr
mutual
def szT : T → Nat → Nat
  | .mk _ b l, left => szL l left (1 + b.length / 20)
def szL : List K → Nat → Nat → Nat
  | [], _, all => all
  | (n, t) :: l, left, all => if all ≤ left then szL l left (all + 1 + n.length / 20 + szT t (left - all)) else all
end
mutual
theorem szT_le : ∀ (t : T) (left : Nat), szT t left ≤ msz t
  | .mk k b l, left => by
    have := szL_le l left (1 + b.length / 20)
    simp only [szT, msz]; omega
theorem szL_le : ∀ (l : List K) (left all : Nat), szL l left all ≤ all + mszL l
  | [], _, _ => by simp [szL, mszL]
  | (n, t) :: l, left, all => by
    simp only [szL, mszL]
    split
    · have h1 := szL_le l left (all + 1 + n.length / 20 + szT t (left - all))
      have h2 := szT_le t (left - all)
      omega
    · omega
end
theorem szL_step {l : List K} {q : Nat} {z : K} (h : l[q]? = some z) {left all : Nat} (hle : all ≤ left) : szL (l.drop q) left all = szL (l.drop (q + 1)) left (all + 1 + z.1.length / 20 + szT z.2 (left - all)) := by
  obtain ⟨hlt, he⟩ := List.getElem?_eq_some_iff.1 h
  rw [List.drop_eq_getElem_cons hlt, he]
  obtain ⟨n, t⟩ := z
  simp [szL, hle]
theorem szL_stop {l : List K} {q left all : Nat} (hle : ¬ all ≤ left) : szL (l.drop q) left all = all := by
  cases l.drop q with
  | nil => rfl
  | cons x m => obtain ⟨n, t⟩ := x; simp [szL, hle]
end Go.Tr
namespace Go.Proofs.YtfiadgdinhmgbaaDoor
open Go.RowKit Pl Go.Agg Go.Tr
end Go.Proofs.YtfiadgdinhmgbaaDoor
/-! The document's reading of an archive (chapter 9): where it answers a tree, it is openT's. No program in sight. -/
namespace Go.Tr
open Go.Proofs.YtfiadgdinhmgbaaDoor Go.Agg
/-- so many kids, while nothing failed -/
def rnL (g : S → T × S) : Nat → S → List K × S
  | 0, s => ([], s)
  | c + 1, s => if s = none then ([], none) else
      (((sText 24 s).1, (g (sText 24 s).2).1) :: (rnL g c (g (sText 24 s).2).2).1, (rnL g c (g (sText 24 s).2).2).2)
/-- what stands there, so deep at most -/
def rn : Nat → S → T × S
  | 0, s => (.mk ((sNum 4 s).1 : Int) [] [], none)
  | d + 1, s =>
    if (sNum 4 s).2 = none then (.mk ((sNum 4 s).1 : Int) [] [], none)
    else if (sNum 4 s).1 = 4 then
      (.mk 4 [] (rnL (rn d) (sNum 200 (sNum 4 s).2).1 (sNum 200 (sNum 4 s).2).2).1, (rnL (rn d) (sNum 200 (sNum 4 s).2).1 (sNum 200 (sNum 4 s).2).2).2)
    else (.mk ((sNum 4 s).1 : Int) (sText 2048 (sNum 4 s).2).1 [], (sText 2048 (sNum 4 s).2).2)
theorem rnL_put {g : S → T × S} : ∀ (l : List K) (b : Option (List UInt8)) (y : List UInt8), named b l = true → (∀ x ∈ l, ∀ y, g (some (packB x.2 ++ y)) = (x.2, some y)) → rnL g l.length (some (packL l ++ y)) = (l, some y)
  | [], _, y, _, _ => by simp [rnL, packL]
  | (n, t) :: l, b, y, hn, hg => by
    simp only [named, Bool.and_eq_true] at hn
    obtain ⟨⟨h1, _⟩, h3⟩ := hn
    have hl := name_le h1
    have ht : sText 24 (some (packL ((n, t) :: l) ++ y)) = (n, some (packB t ++ (packL l ++ y))) := by
      rw [packL, List.append_assoc, List.append_assoc]
      exact sText_enc hl (by omega) _
    have hg1 := hg (n, t) (by simp) (packL l ++ y)
    have ih := rnL_put l (some n) y h3 (fun x hx => hg x (by simp [hx]))
    simp only [List.length_cons, rnL, ht, hg1, ih]
    simp
theorem rn_put : ∀ (d : Nat) (t : T) (y : List UInt8), ok t = true → deep t ≤ d → rn d (some (packB t ++ y)) = (t, some y)
  | 0, t, y, _, h => by have := deep_pos t; omega
  | d + 1, .mk k b l, y, hok, hd => by
    have ha : alone (.mk k b l) = true := by simp only [ok, Bool.and_eq_true] at hok; exact hok.1
    have hk := kids_ok hok
    rw [show (T.mk k b l).kids = l from rfl] at hk
    unfold rn
    rcases alone_cases ha with ⟨rfl, rfl, h200, hnm⟩ | ⟨h4, h1, h3, h2048, rfl⟩
    · have e1 : sNum 4 (some (packB (.mk 4 [] l) ++ y)) = (4, some (encN l.length ++ (packL l ++ y))) := by
        simp only [packB, if_true, List.append_assoc]
        exact sNum_enc (by omega) (by omega) _
      have e2 : sNum 200 (some (encN l.length ++ (packL l ++ y))) = (l.length, some (packL l ++ y)) := sNum_enc (by omega) h200 _
      simp only [deep] at hd
      have := rnL_put (g := rn d) l none y hnm (fun x hx y => rn_put d x.2 y (okL_mem hk hx) (by have := deepL_mem hx; omega))
      simp only [e1, e2, this]
      simp
    · have e1 : sNum 4 (some (packB (.mk k b []) ++ y)) = (k.toNat, some (encT b ++ y)) := by
        simp only [packB, if_neg h4, List.append_assoc]
        exact sNum_enc (by omega) (by omega) _
      have e2 : sText 2048 (some (encT b ++ y)) = (b, some y) := sText_enc h2048 (by omega) _
      have hk4 : ¬ k.toNat = 4 := by omega
      have hkk : ((k.toNat : Nat) : Int) = k := by omega
      simp only [e1, e2, if_neg hk4, hkk]
      simp
/-- the document's answer: the tree that is read, if it is right and these are its bytes -/
theorem rn_open (b : List UInt8) : openT b = if (rn 8 (some b)).2 ≠ none ∧ right (rn 8 (some b)).1 = true ∧ packB (rn 8 (some b)).1 = b then some (rn 8 (some b)).1 else none := by
  split
  · next h => exact (openT_iff b _).2 ⟨h.2.1, h.2.2⟩
  · next h =>
    cases ho : openT b with
    | none => rfl
    | some t =>
      exfalso
      obtain ⟨h1, h2⟩ := (openT_iff b t).1 ho
      have hr := h1
      simp only [right, lookB, Bool.and_eq_true, decide_eq_true_eq] at hr
      have e := rn_put 8 t [] hr.1.1 (by omega)
      rw [List.append_nil, h2] at e
      apply h
      rw [e]
      exact ⟨by simp, h1, h2⟩
end Go.Tr
/-! spenceref01.Number. -/
namespace Go.Proofs.YtfiadgdinhmgbaaDoor
open Go.RowKit Pl Go.Agg
end Go.Proofs.YtfiadgdinhmgbaaDoor
/-! spenceref01.Cursor: fail, End, Raw, Num, Text. -/
namespace Go.Proofs.YtfiadgdinhmgbaaDoor
open Go.RowKit Pl Go.Agg
section
variable {base g : Nat} {w w' : World} {v : Value} {r : List UInt8} {e : Nat}
end
end Go.Proofs.YtfiadgdinhmgbaaDoor
/-! spenceref01.Cursor: Num, Text. -/
namespace Go.Proofs.YtfiadgdinhmgbaaDoor
open Go.RowKit Pl Go.Agg
theorem getN_go (most : Nat) (b : List UInt8) : getN most b = if (numGo 0 0 b).1 = 0 ∨ (numGo 0 0 b).1 ≠ (encN (numGo 0 0 b).2).length ∨ 1099511627776 < (numGo 0 0 b).2 ∨ most < (numGo 0 0 b).2 then none else some ((numGo 0 0 b).2, b.drop (numGo 0 0 b).1) := by
  have h := numGo_dec b 0 0 (by omega)
  unfold getN
  by_cases h0 : (dec 6 b).1 = 0
  · rw [if_pos (show (dec (6 - 0) b).1 = 0 from h0)] at h
    rw [if_pos (.inl h0), if_pos (.inl h)]
  · rw [if_neg (show ¬ (dec (6 - 0) b).1 = 0 from h0)] at h
    have e : numGo 0 0 b = ((dec 6 b).1, (dec 6 b).2) := by rw [h]; simp
    rw [e]
end Go.Proofs.YtfiadgdinhmgbaaDoor
/-! spenceref01.Cursor as a state: contracts without cases; Text. -/
namespace Go.Proofs.YtfiadgdinhmgbaaDoor
open Go.RowKit Pl Go.Agg
theorem sText_num (most : Nat) (s : Option (List UInt8)) : sText most s = match (sNum 1099511627776 s).2 with
    | none => ([], none)
    | some y => if (sNum 1099511627776 s).1 ≤ most then sRaw (sNum 1099511627776 s).1 (some y) else ([], none) := by
  cases s with
  | none => rfl
  | some r =>
    cases hg : getN 1099511627776 r with
    | none => simp [sText, getT, sNum, hg]
    | some p =>
      obtain ⟨n, y⟩ := p
      have e : sNum 1099511627776 (some r) = (n, some y) := by simp only [sNum, hg]
      rw [e]
      simp only [sText, getT, hg, sRaw]
      by_cases h1 : n ≤ most <;> by_cases h2 : n ≤ y.length <;> simp [h1, h2]
end Go.Proofs.YtfiadgdinhmgbaaDoor
/-! spenceref01.Cursor over the bytes of an argument: fail, End, Raw. -/
namespace Go.Proofs.YtfiadgdinhmgbaaDoor
open Go.RowKit Pl Go.Agg
/-- bytes of old memory, read by a cursor at g -/
def RestA (base g : Nat) (w : World) (v : Value) (r : List UInt8) : Prop := base ≤ g ∧ (∃ p c, v = .slice p r.length c ∧ r.length ≤ c) ∧ BytesAt w v r ∧ (r = [] ∨ ∀ k, v.ownBlock = some k → k < base)
theorem argDropped {w : World} {p : Option Addr} {c : Nat} {l : List UInt8} (h : BytesAt w (.slice p l.length c) l) (hc : l.length ≤ c) (k : Nat) (hk : k ≤ l.length) :
    BytesAt w (.slice (if c = k then p else p.map (·.add k)) (l.length - k) (c - k)) (l.drop k) := by
  rcases h with ⟨q, d, e, rfl⟩ | ⟨q, d, e, hq, hcell⟩
  · simp only [List.length_nil, Nat.le_zero_eq] at hk
    subst hk
    exact SliceOf.nil _ _ _
  · simp only [Value.slice.injEq] at e
    obtain ⟨rfl, _, rfl⟩ := e
    by_cases hck : c = k
    · rw [if_pos hck, List.drop_eq_nil_of_le (by omega), show l.length - k = 0 by omega]
      exact SliceOf.nil _ _ _
    · rw [if_neg hck]
      refine .inr ⟨q.add k, c - k, by simp, by rw [add_block]; exact hq, fun j u hj => ?_⟩
      have e : EB.flat l = EB.flat (l.take k) ++ EB.flat (l.drop k) := by rw [← Elem.flat_append, List.take_append_drop]
      have hlen : (EB.flat (l.take k)).length = k := by rw [Elem.flat_length, show EB.n = 1 from rfl, List.length_take]; omega
      have := hcell (k + j) u (by rw [e, List.getElem?_append_right (by omega), hlen, show k + j - k = j by omega]; exact hj)
      rwa [← add_add] at this
theorem RestA.slice {base g : Nat} {w : World} {v : Value} {r : List UInt8} (h : RestA base g w v r) : BytesAt w v r := h.2.2.1
theorem RestA.nil {base g : Nat} {w : World} (h : base ≤ g) : RestA base g w (.slice none 0 0) [] := ⟨h, ⟨none, 0, rfl, by simp⟩, SliceOf.nil _ _ _, .inl rfl⟩
theorem RestA.below {base g : Nat} {w w' : World} {v : Value} {r : List UInt8} (h : RestA base g w v r) (hb : Below w.heap.size w w') : RestA base g w' v r := ⟨h.1, h.2.1, SliceOf.below h.2.2.1 hb, h.2.2.2⟩
theorem RestA.keep {base g : Nat} {w w' : World} {v : Value} {r : List UInt8} (h : RestA base g w v r) (hs : w.heap.size ≤ w'.heap.size) (hb : ∀ k, k < base → k < w.heap.size → w'.heap[k]? = w.heap[k]?) : RestA base g w' v r := by
  refine ⟨h.1, h.2.1, ?_, h.2.2.2⟩
  rcases h.2.2.2 with rfl | hk
  · obtain ⟨p, c, hf, _⟩ := h.2.1
    rw [hf]; exact SliceOf.nil _ _ _
  · rcases h.2.2.1 with h1 | ⟨p, cap, rfl, hp, hc⟩
    · exact .inl h1
    · refine .inr ⟨p, cap, rfl, Nat.lt_of_lt_of_le hp hs, fun j u hj => ?_⟩
      have hlt := hk p.block rfl
      have e : w'.cell? (p.add j) = w.cell? (p.add j) := by simp only [World.cell?, add_block, hb p.block hlt hp]
      rw [e]; exact hc j u hj
theorem RestA.of_arg {w : World} {v : Value} {r : List UInt8} {g : Nat} (h : BytesAt w v r) (hc : ∀ p n c, v = .slice p n c → n ≤ c) (hg : w.heap.size ≤ g) : RestA w.heap.size g w v r := by
  refine ⟨hg, ?_, h, ?_⟩
  · obtain ⟨p, c, hf⟩ := h.form
    exact ⟨p, c, hf, hc _ _ _ hf⟩
  · rcases h with ⟨p, c, _, rfl⟩ | ⟨p, cap, rfl, hp, _⟩
    · exact .inl rfl
    · exact .inr fun k hk => by simp only [Value.ownBlock, Option.some.injEq] at hk; omega
theorem arest_high {base g : Nat} {w : World} {v : Value} {r : List UInt8} (h : RestA base g w v r) (k : Nat) (hk : k ≤ r.length) :
    ∃ vx, (∀ W, (Instr.sliceAt 23 v none (some (.int .i64 (k : Int))) none).run Tryd.prog W = .ok vx W) ∧ BytesAt w vx (r.take k) := by
  obtain ⟨_, ⟨q, c, rfl, hc⟩, hs, _⟩ := h
  exact ⟨_, fun W => runHigh q r.length c k (by omega) W, sliceOf_taken hs k hk⟩
theorem arest_low {base g : Nat} {w : World} {v : Value} {r : List UInt8} (h : RestA base g w v r) (k : Nat) (hk : k ≤ r.length) :
    ∃ vx, (∀ W, (Instr.sliceAt 23 v (some (.int .i64 (k : Int))) none none).run Tryd.prog W = .ok vx W) ∧ RestA base g w vx (r.drop k) ∧ vx.cells = #[vx] ∧ vx.oneCell' = true := by
  obtain ⟨hg, ⟨q, c, rfl, hc⟩, hs, hb⟩ := h
  refine ⟨_, fun W => runLow _ _ _ k hk W, ⟨hg, ⟨_, _, by rw [List.length_drop], by rw [List.length_drop]; omega⟩, argDropped hs hc k hk, ?_⟩, rfl, rfl⟩
  rcases hb with rfl | hb
  · exact .inl (by simp)
  · right
    intro j hj
    split at hj
    · exact hb j (by cases q with
        | none => simp [Value.ownBlock] at hj
        | some p => simpa [Value.ownBlock] using hj)
    · cases q with
      | none => simp [Value.ownBlock] at hj
      | some p => exact hb j (by simpa [Value.ownBlock, add_block] using hj)
section
variable {base g : Nat} {w w' : World} {v : Value} {r : List UInt8} {e : Nat}
end
end Go.Proofs.YtfiadgdinhmgbaaDoor
/-! .. Num. -/
namespace Go.Proofs.YtfiadgdinhmgbaaDoor
open Go.RowKit Pl Go.Agg
end Go.Proofs.YtfiadgdinhmgbaaDoor
/-! .. as a state: contracts without cases; Text. -/
namespace Go.Proofs.YtfiadgdinhmgbaaDoor
open Go.RowKit Pl Go.Agg
end Go.Proofs.YtfiadgdinhmgbaaDoor
/-! spenceref09.node: the document's reading of a node. -/
namespace Go.Tr
open Go.Proofs.YtfiadgdinhmgbaaDoor
theorem rn_zero {s s1 : S} {k : Nat} (h : sNum 4 s = (k, s1)) : rn 0 s = (.mk (k : Int) [] [], none) := by rw [rn, h]
theorem rn_bad {d : Nat} {s : S} {k : Nat} (h : sNum 4 s = (k, none)) : rn (d + 1) s = (.mk (k : Int) [] [], none) := by rw [rn, h, if_pos rfl]
theorem rn_file {d : Nat} {s s2 : S} {r : List UInt8} {k : Nat} {b : List UInt8} (h : sNum 4 s = (k, some r)) (h4 : ¬ k = 4) (h2 : sText 2048 (some r) = (b, s2)) : rn (d + 1) s = (.mk (k : Int) b [], s2) := by
  rw [rn, h, if_neg (by simp), if_neg h4, h2]
theorem rn_dir {d : Nat} {s s2 : S} {r : List UInt8} {c : Nat} (h : sNum 4 s = (4, some r)) (h2 : sNum 200 (some r) = (c, s2)) : rn (d + 1) s = (.mk 4 [] (rnL (rn d) c s2).1, (rnL (rn d) c s2).2) := by
  rw [rn, h, if_neg (by simp), if_pos rfl, h2]
theorem rnL_none {g : S → T × S} (c : Nat) : rnL g c none = ([], none) := by cases c <;> simp [rnL]
theorem rnL_kid {g : S → T × S} {c : Nat} {r : List UInt8} {nm : List UInt8} {t1 s3 : S} {t2 : T} (h1 : sText 24 (some r) = (nm, t1)) (h2 : g t1 = (t2, s3)) : rnL g (c + 1) (some r) = ((nm, t2) :: (rnL g c s3).1, (rnL g c s3).2) := by
  simp only [rnL, h1, h2]; simp
/-- kids behind those that are there -/
def behR (m : List K) (x : List K × S) : List K × S := (m ++ x.1, x.2)
theorem rn_len : ∀ (d : Nat) (s : S), stLen (rn d s).2 ≤ stLen s := by
  intro d
  induction d with
  | zero => intro s; simp [rn, stLen]
  | succ d ih =>
    intro s
    have h1 := sNum_len 4 s
    have key : ∀ (c : Nat) (s : S), stLen (rnL (rn d) c s).2 ≤ stLen s := by
      intro c
      induction c with
      | zero => intro s; simp [rnL]
      | succ c ihc =>
        intro s
        simp only [rnL]
        split
        · simp [stLen]
        · exact Nat.le_trans (ihc _) (Nat.le_trans (ih _) (sText_len 24 s))
    rw [rn]
    split
    · simp [stLen]
    · split
      · exact Nat.le_trans (key _ _) (Nat.le_trans (sNum_len 200 _) h1)
      · exact Nat.le_trans (sText_len 2048 _) h1
end Go.Tr
namespace Go.Proofs.YtfiadgdinhmgbaaDoor
open Go.RowKit Pl Go.Agg Go.Tr
theorem nd_build1 (k : Int) (W : World) : (Instr.build 26 #[(0, .int .i64 k)]).run Tryd.prog W = .ok (.agg (ndC (k, svN, svN))) W := by kernel_rfl
theorem ownN_leaf (base : Nat) (w : World) (k : Int) : OwnN base w (k, svN, svN) (.mk k [] []) :=
  (OwnS.mk (Agg.Own.nil _ _ _) (Agg.Own.nil _ _ _) rfl (by simp [svN, ownB, Value.ownBlock]) : OwnS base w svN.1 [] svN.1 [] [] []).node
end Go.Proofs.YtfiadgdinhmgbaaDoor
/-! What the document reads is what is put. No program in sight. -/
namespace Go.Tr
open Go.Proofs.YtfiadgdinhmgbaaDoor Go.Agg
theorem encN_one (n : Nat) : 1 ≤ (encN n).length := List.length_pos_iff.2 (encN_ne n)
theorem rnL_puts {g : S → T × S} (hg : ∀ s t r, g s = (t, some r) → s = some (packB t ++ r) ∧ msz t ≤ 2 * (packB t).length) :
    ∀ (c : Nat) (s : S) (l : List K) (r : List UInt8), rnL g c s = (l, some r) → l.length = c ∧ s = some (packL l ++ r) ∧ mszL l ≤ 2 * (packL l).length
  | 0, s, l, r, h => by
    simp only [rnL, Prod.mk.injEq] at h
    obtain ⟨rfl, rfl⟩ := h
    exact ⟨rfl, rfl, by simp [mszL, packL]⟩
  | c + 1, s, l, r, h => by
    unfold rnL at h
    split at h
    · cases h
    · obtain ⟨nm, s1, q1⟩ : ∃ a b, sText 24 s = (a, b) := ⟨_, _, rfl⟩
      obtain ⟨t, s2, q2⟩ : ∃ a b, g s1 = (a, b) := ⟨_, _, rfl⟩
      obtain ⟨m, s3, q3⟩ : ∃ a b, rnL g c s2 = (a, b) := ⟨_, _, rfl⟩
      simp only [q1, q2, q3, Prod.mk.injEq] at h
      obtain ⟨rfl, rfl⟩ := h
      obtain ⟨h1, h2, h3⟩ := rnL_puts hg c s2 m r q3
      subst h2
      obtain ⟨h4, h5⟩ := hg _ _ _ q2
      subst h4
      have h6 := (sText_some q1).1
      refine ⟨by rw [List.length_cons, h1], by rw [h6]; simp [packL], ?_⟩
      have e1 := encN_one nm.length
      simp only [mszL, packL, encT, List.length_append]
      omega
theorem rn_puts : ∀ (d : Nat) (s : S) (t : T) (r : List UInt8), rn d s = (t, some r) → s = some (packB t ++ r) ∧ msz t ≤ 2 * (packB t).length
  | 0, s, t, r, h => by simp [rn] at h
  | d + 1, s, t, r, h => by
    obtain ⟨k, s1, q1⟩ : ∃ a b, sNum 4 s = (a, b) := ⟨_, _, rfl⟩
    rw [rn, q1] at h
    dsimp only at h
    split at h
    · cases h
    · next hn =>
      obtain ⟨y, rfl⟩ : ∃ y, s1 = some y := by cases s1 with | none => exact absurd rfl hn | some y => exact ⟨y, rfl⟩
      have hs := (sNum_some q1).1
      have e1 := encN_one k
      split at h
      · next h4 =>
        subst h4
        obtain ⟨c, s2, q2⟩ : ∃ a b, sNum 200 (some y) = (a, b) := ⟨_, _, rfl⟩
        rw [q2] at h
        dsimp only at h
        obtain ⟨l, s3, q3⟩ : ∃ a b, rnL (rn d) c s2 = (a, b) := ⟨_, _, rfl⟩
        rw [q3] at h
        simp only [Prod.mk.injEq] at h
        obtain ⟨rfl, rfl⟩ := h
        obtain ⟨h1, h2, h3⟩ := rnL_puts (rn_puts d) c s2 l r q3
        subst h2
        have hy := (sNum_some q2).1
        injection hy with hy
        subst h1
        refine ⟨by rw [hs, hy]; simp [packB], ?_⟩
        have e2 := encN_one l.length
        simp only [msz, packB, if_true, List.length_append, List.length_nil]
        omega
      · next h4 =>
        obtain ⟨b, s2, q2⟩ : ∃ a b, sText 2048 (some y) = (a, b) := ⟨_, _, rfl⟩
        rw [q2] at h
        simp only [Prod.mk.injEq] at h
        obtain ⟨rfl, rfl⟩ := h
        have hy := (sText_some q2).1
        injection hy with hy
        have hk : ¬ ((k : Nat) : Int) = 4 := by omega
        refine ⟨by rw [hs, hy]; simp [packB, hk], ?_⟩
        have e2 := encN_one b.length
        simp only [msz, mszL, packB, if_neg hk, encT, List.length_append]
        omega
/-- the document's Open is the program's -/
theorem open9_bad {b : List UInt8} (hl : b.length ≤ 4096) (h : (rn 8 (some b)).2 = none ∨ right (rn 8 (some b)).1 = false ∨ packB (rn 8 (some b)).1 ≠ b) : opE b = 4 ∧ opT b = zT := by
  have ho : openT b = none := by
    rw [rn_open, if_neg]
    rintro ⟨h1, h2, h3⟩
    rcases h with h | h | h
    · exact h1 h
    · rw [h2] at h; cases h
    · exact h h3
  have e : opE b = 4 := by rw [opE, if_pos hl, ho]; rfl
  exact ⟨e, opT_not (by omega)⟩
theorem open9_good {b : List UInt8} (hl : b.length ≤ 4096) {t : T} {r : List UInt8} (h : rn 8 (some b) = (t, some r)) (hr : right t = true) (hp : packB t = b) : opE b = 0 ∧ opT b = t :=
  opE_of hl (by rw [rn_open, h, if_pos ⟨by simp, hr, hp⟩])
theorem open9_long {b : List UInt8} (hl : ¬ b.length ≤ 4096) : opE b = 3 ∧ opT b = zT := by
  have e : opE b = 3 := by rw [opE, if_neg hl]
  exact ⟨e, opT_not (by omega)⟩
end Go.Tr
/-! (of general use) spenceref03: bit, Letters, value, within. -/
namespace Go.Proofs.YtfiadgdinhmgbaaDoor
open Go.RowKit Pl
theorem within_any (c lo hi : Int) (w : World) :
    Calls Tryd.prog 91 #[.int .u8 c, .int .u8 lo, .int .u8 hi] w fun e w' => e = .returned (.bool (wi c lo hi)) ∧ w = w' := by
  by_cases h : lo ≤ c
  · go_enter Tryd.func91, Tryd.ntmps91
    go_wp2_with fail
    go_ret
    exact ⟨by simp [wi, h], rfl⟩
  · have hd : decide (lo ≤ c) = false := by simp; omega
    go_enter Tryd.func91, Tryd.ntmps91
    go_wp2_with fail
    go_ret
    exact ⟨by simp [wi, hd], rfl⟩
/-- bit i of a hash, as a number -/
def bitAt (h : List UInt8) (i : Nat) : Nat := num 256 (nats h) / 2 ^ i % 2
theorem bitAt_eq (h : List UInt8) (i : Nat) (hi : i / 8 < h.length) : bitAt h i = (h[i / 8]?.getD 0).toNat / 2 ^ (i % 8) % 2 := by
  have hd := digs_num 256 (nats h) (nats_lt h)
  have hq := digs_getElem? 256 (nats h).length (num 256 (nats h)) (i / 8) (by simpa [nats] using hi)
  rw [hd] at hq
  have hn : (nats h)[i / 8]? = some (h[i / 8]?.getD 0).toNat := by simp [nats, List.getElem?_eq_getElem hi]
  rw [hn] at hq
  have hx := Option.some.inj hq
  unfold bitAt
  have e : num 256 (nats h) / 2 ^ i = num 256 (nats h) / 256 ^ (i / 8) / 2 ^ (i % 8) := by
    rw [pow256, Nat.div_div_eq_div_mul, ← Nat.pow_add, Nat.div_add_mod]
  rw [e, hx]
  generalize num 256 (nats h) / 256 ^ (i / 8) = y
  have hr : i % 8 < 8 := Nat.mod_lt _ (by omega)
  generalize i % 8 = r at hr
  have : r = 0 ∨ r = 1 ∨ r = 2 ∨ r = 3 ∨ r = 4 ∨ r = 5 ∨ r = 6 ∨ r = 7 := by omega
  rcases this with rfl | rfl | rfl | rfl | rfl | rfl | rfl | rfl <;> omega
/-- a letter's value, or -1 -/
def valI (c : UInt8) : Int := match val c with | some n => (n : Int) | none => -1
/-- the higher bits of letter i, from t on -/
def part (h : List UInt8) (i t : Nat) : Nat := num 256 (nats h) / 2 ^ (5 * i + t) % 2 ^ (5 - t)
theorem part_lt (h : List UInt8) (i t : Nat) : part h i t < 32 :=
  Nat.lt_of_lt_of_le (Nat.mod_lt _ (Nat.pow_pos (by omega))) (Nat.pow_le_pow_right (n := 2) (by omega) (by omega : 5 - t ≤ 5))
theorem part_5 (h : List UInt8) (i : Nat) : part h i 5 = 0 := by simp [part, Nat.mod_one]
theorem part_0 (h : List UInt8) (i : Nat) : part h i 0 = num 256 (nats h) / 32 ^ i % 32 := by simp [part, pow32]
theorem part_step (h : List UInt8) (i t : Nat) (ht : t < 5) : part h i t = 2 * part h i (t + 1) + bitAt h (5 * i + t) := by
  unfold part bitAt
  rw [show 5 - t = (5 - (t + 1)) + 1 by omega, Nat.pow_succ', Nat.mod_mul, Nat.div_div_eq_div_mul, ← Nat.pow_succ, show (5 * i + t).succ = 5 * i + (t + 1) by omega]
  omega
theorem bitAt_lt (h : List UInt8) (i : Nat) : bitAt h i < 2 := Nat.mod_lt _ (by omega)
theorem refLetters_step (h : List UInt8) (k : Nat) (hk : k < 32) : ({ data := (List.take k (letters h)).toArray } : ByteArray) ++
    ByteArray.extract ⟨#[48, 49, 50, 51, 52, 53, 54, 55, 56, 57, 97, 98, 99, 100, 102, 103, 104, 105, 106, 107, 108, 109, 110, 112, 113, 114, 115, 118, 119, 120, 121, 122]⟩ (part h k 0) (part h k 0 + 1) = { data := (List.take (k + 1) (letters h)).toArray } := by
  show ({ data := (List.take k (letters h)).toArray } : ByteArray) ++ ByteArray.extract ⟨alpha.toArray⟩ (part h k 0) (part h k 0 + 1) = { data := (List.take (k + 1) (letters h)).toArray }
  have hp := part_lt h k 0
  have hl : k < (letters h).length := by rw [letters_length]; exact hk
  rw [Agg.bytes_extract, Agg.bytes_append, List.take_succ_eq_append_getElem hl]
  congr 3
  have ha : part h k 0 < alpha.length := hp
  rw [List.take_succ_eq_append_getElem ha, List.drop_append_of_le_length (by simp; omega), List.drop_eq_nil_of_le (by simp; omega), List.nil_append]
  congr 1
  have : (letters h)[k]? = some (letter (part h k 0)) := by
    unfold letters
    rw [List.getElem?_map, digs_getElem? _ _ _ _ hk, part_0]; rfl
  rw [List.getElem?_eq_getElem hl] at this
  rw [Option.some.inj this]
  simp [letter, List.getD, List.getElem?_eq_getElem ha]
end Go.Proofs.YtfiadgdinhmgbaaDoor
/-! spenceref03.Name. -/
namespace Go.Proofs.YtfiadgdinhmgbaaDoor
open Go.RowKit Pl
/-- the test of spenceref03.Name: not a sign -/
theorem sgn_wi (c : UInt8) : sgn c = (wi c.toNat 97 122 || wi c.toNat 65 90 || wi c.toNat 48 57 || ((c.toNat : Int) == 46) || ((c.toNat : Int) == 95) || ((c.toNat : Int) == 43) || ((c.toNat : Int) == 45)) := by
  have : ∀ n : Nat, n < 256 → sgn (UInt8.ofNat n) = (wi n 97 122 || wi n 65 90 || wi n 48 57 || ((n : Int) == 46) || ((n : Int) == 95) || ((n : Int) == 43) || ((n : Int) == 45)) := by decide +kernel
  have h := this c.toNat c.toNat_lt
  rwa [UInt8.ofNat_toNat] at h
theorem n45 {x : Int} (h : (x != 45) = false) : x = 45 := by simpa using h
set_option maxRecDepth 100000 in
set_option maxHeartbeats 2000000 in
theorem refName_any (s : List UInt8) (hs : s.length ≤ 9223372036854775807) (w : World) :
    Calls Tryd.prog 68 #[.string ⟨s.toArray⟩] w fun e w' => e = .returned (.bool (isName s)) ∧ w = w' := by
  have hsz := Agg.bytes_size s
  have HS := Lib.hid hsz
  have hlen : ∀ w, (Builtin.len_ #[9] 3 #[.string ⟨s.toArray⟩]).run Tryd.prog w = .ok (.int .i64 (s.length : Int)) w := fun w => by rw [run_len_string w 9 3 _ Tryd.underlying9, hsz]; rfl
  clear hsz
  go_enter Tryd.func68, Tryd.ntmps68
  go_wp2_with fail
  go_loop [3] (fun i => ∃ k : Nat, k ≤ s.length ∧ i = .int .i64 k ∧ ∀ j (hj : j < s.length), j < k → sgn s[j] = true) (fun i => s.length - (intOf i).toNat)
  case atStart => exact ⟨0, by omega, rfl, by intros; omega⟩
  case round =>
    obtain ⟨k, hk, rfl, hg⟩ := hrel
    have HG := Lib.hid hg
    clear hg
    by_cases hlt : k < s.length
    · have hix := fun w => Agg.run_index_str (P := Tryd.prog) (k := .i64) (c := s[k]) w Tryd.underlying9 (List.getElem?_eq_getElem hlt)
      have hsg := sgn_wi s[k]
      have HS := Lib.hid hsg
      clear hsg
      generalize hc : s[k] = c at hix HS
      have HC := Lib.hid hc
      clear hc
      go_wp2_with (go_at_call 91; refine (within_any _ _ _ _).mono ?_; rintro e w' ⟨rfl, rfl⟩)
      · have h45 : ((c.toNat : Int) != 45) = true := by assumption
        have hsg : sgn s[k] = false := by rw [HC.out, HS.out]; simp [*]; simpa using h45
        go_ret
        exact ⟨ret_bool (isName_bad s k hlt hsg).symm, rfl⟩
      all_goals
        have hsg : sgn s[k] = true := by rw [HC.out, HS.out]; first | (simp [*]; done) | (have h45 := n45 ‹((c.toNat : Int) != 45) = false›; simp [h45]; done)
        go_round
        case rel => exact ⟨k + 1, by omega, by go_num, fun j hj h => by
          rcases Nat.lt_or_ge j k with h' | h'
          · exact HG.out j hj h'
          · obtain rfl : j = k := by omega
            exact hsg⟩
        case measure => simp [intOf]; omega
    · obtain rfl : k = s.length := by omega
      have hgood := isName_good s (fun j hj => HG.out j hj hj)
      have HI := Lib.hid hgood
      clear hgood
      cases s with
      | nil =>
        simp only [List.length_nil] at hlen
        go_wp2_with fail
        go_ret
        exact ⟨ret_bool (by rw [HI.out]; rfl), rfl⟩
      | cons c l =>
        have hix : ∀ w, (Instr.index 9 (.string ⟨(c :: l).toArray⟩) (.int .i64 0)).run Tryd.prog w = .ok (.int .u8 (c.toNat : Int)) w := fun w => Agg.run_index_str (i := 0) w Tryd.underlying9 rfl
        simp only [List.length_cons] at hlen
        go_wp2_with fail
        all_goals go_ret
        all_goals refine ⟨ret_bool ?_, rfl⟩
        all_goals rw [HI.out]
        · have h24 : (l.length : Int) + 1 ≤ 24 := by assumption
          have e : (((c.toNat : Int)) != 46) = (c != 46) := by
            rw [Bool.eq_iff_iff]; simp only [bne_iff_ne, ne_eq]; rw [← UInt8.toNat_inj]; simp; omega
          simp [e, show l.length + 1 ≤ 24 by omega]
        · have h24 : 24 < (l.length : Int) + 1 := by assumption
          simp [show ¬ l.length + 1 ≤ 24 by omega]
end Go.Proofs.YtfiadgdinhmgbaaDoor
/-! spenceref08.alone: whether a node is right by itself. -/
namespace Go.Tr
theorem alone_12 {k : Int} {b : List UInt8} {l : List K} (h : k = 1 ∨ k = 2) : alone (.mk k b l) = (decide (b.length ≤ 2048) && l.isEmpty) := by
  rcases h with rfl | rfl <;> simp [alone]
theorem alone_3 {b : List UInt8} {l : List K} : alone (.mk 3 b l) = (decide (1 ≤ b.length) && decide (b.length ≤ 200) && l.isEmpty) := by simp [alone]
theorem alone_4 {b : List UInt8} {l : List K} : alone (.mk 4 b l) = (b.isEmpty && decide (l.length ≤ 200) && named none l) := by simp [alone]
theorem alone_no {k : Int} {b : List UInt8} {l : List K} (h1 : k ≠ 1) (h2 : k ≠ 2) (h3 : k ≠ 3) (h4 : k ≠ 4) : alone (.mk k b l) = false := by simp [alone, h1, h2, h3, h4]
end Go.Tr
namespace Go.Proofs.YtfiadgdinhmgbaaDoor
open Go.RowKit Pl Go.Agg Go.Tr
theorem refNameD (s : List UInt8) {b : Bool} (hb : isName s = b) (hs : s.length ≤ 1048576) (w : World) :
    Calls Tryd.prog 68 #[.string ⟨s.toArray⟩] w fun e w' => e = .returned (.bool b) ∧ Below w.heap.size w w' := by
  subst hb
  exact (refName_any s (by omega) w).mono fun e w' ⟨h1, h2⟩ => ⟨h1, h2 ▸ Below.refl _ _⟩
set_option maxRecDepth 100000 in
set_option maxHeartbeats 8000000 in
theorem ralone_any (v : Value) (t : T) (hm : msz t ≤ 1048576) (w : World) (hv : NodeAt w v t) :
    Calls Tryd.prog 90 #[v] w fun e w' => e = .returned (.bool (alone t)) ∧ Below w.heap.size w w' := by
  obtain ⟨x, rfl, hx⟩ := hv
  obtain ⟨k, b, l⟩ := t
  obtain ⟨kx, vb, vk⟩ := x
  obtain ⟨hk, hby, ks, hsl, hkv⟩ := hx
  have hk : kx = k := hk
  subst hk
  have hkl := hkv.len
  have hlb := fun W => bytes_len hby W
  have hlk := fun W => kds_len hsl W
  rw [hkl] at hlk
  have hbm := bytes_msz kx b l
  have hkm := kids_msz kx b l
  have hlm : mszL l ≤ 1048576 := by simp only [msz] at hm; omega
  have HSL := Lib.hid hsl
  have HN := Lib.hid hkv.nms
  have HLM := Lib.hid (fun x (hx : x ∈ l) => show x.1.length ≤ 1048576 by have := mem_mszL hx; omega)
  clear hby hsl hkv hkl
  go_enter Tryd.func90, Tryd.ntmps90
  by_cases h1 : kx = 1
  · subst h1
    by_cases hb : b.length ≤ 2048
    · have hbd : decide ((b.length : Int) ≤ 2048) = true := by simp; omega
      by_cases hl : l.length = 0
      · have HL := Lib.hid hl
        have hz1 : decide (((l.length : Nat) : Int) = 0) = true := decide_eq_true (by omega)
        have hz2 : (((l.length : Nat) : Int) == 0) = true := by rw [beq_iff_eq]; omega
        clear hl
        go_wp2_with (first | (refine Agg.wpList_box rfl 26 _ rfl (ndC (_, vb, vk)) rfl ?_; intro g1 w1 hb hx hg; have HB := Lib.hid hb; have HX := Lib.hid hx; have HS1 := Lib.hid (HSL.out.below hx); clear hb hx hg) | (with_reducible refine Agg.wpList_loadL (NdL.of_blk HB.out).kind rfl _ rfl rfl ?_) | (with_reducible refine Agg.wpList_loadL (NdL.of_blk HB.out).bytes rfl _ rfl rfl ?_) | (with_reducible refine Agg.wpList_loadL (NdL.of_blk HB.out).kids rfl _ rfl rfl ?_))
        go_ret
        exact ⟨ret_bool (by rw [alone_12 (by decide)]; have hl := HL.out; cases l <;> simp_all), HX.out⟩
      · have HL := Lib.hid hl
        have hz1 : decide (((l.length : Nat) : Int) = 0) = false := decide_eq_false (by omega)
        have hz2 : (((l.length : Nat) : Int) == 0) = false := by rw [beq_eq_false_iff_ne]; omega
        clear hl
        go_wp2_with (first | (refine Agg.wpList_box rfl 26 _ rfl (ndC (_, vb, vk)) rfl ?_; intro g1 w1 hb hx hg; have HB := Lib.hid hb; have HX := Lib.hid hx; have HS1 := Lib.hid (HSL.out.below hx); clear hb hx hg) | (with_reducible refine Agg.wpList_loadL (NdL.of_blk HB.out).kind rfl _ rfl rfl ?_) | (with_reducible refine Agg.wpList_loadL (NdL.of_blk HB.out).bytes rfl _ rfl rfl ?_) | (with_reducible refine Agg.wpList_loadL (NdL.of_blk HB.out).kids rfl _ rfl rfl ?_))
        go_ret
        exact ⟨ret_bool (by rw [alone_12 (by decide)]; have hl := HL.out; cases l <;> simp_all), HX.out⟩
    · have hbd : decide ((b.length : Int) ≤ 2048) = false := by simp; omega
      go_wp2_with (first | (refine Agg.wpList_box rfl 26 _ rfl (ndC (_, vb, vk)) rfl ?_; intro g1 w1 hb hx hg; have HB := Lib.hid hb; have HX := Lib.hid hx; have HS1 := Lib.hid (HSL.out.below hx); clear hb hx hg) | (with_reducible refine Agg.wpList_loadL (NdL.of_blk HB.out).kind rfl _ rfl rfl ?_) | (with_reducible refine Agg.wpList_loadL (NdL.of_blk HB.out).bytes rfl _ rfl rfl ?_) | (with_reducible refine Agg.wpList_loadL (NdL.of_blk HB.out).kids rfl _ rfl rfl ?_))
      go_ret
      exact ⟨ret_bool (by rw [alone_12 (by decide)]; simp [hb]), HX.out⟩
  have hk1 : decide (kx = 1) = false := by simpa using h1
  have hq1 : (kx == 1) = false := by simpa using h1
  by_cases h2 : kx = 2
  · subst h2
    by_cases hb : b.length ≤ 2048
    · have hbd : decide ((b.length : Int) ≤ 2048) = true := by simp; omega
      by_cases hl : l.length = 0
      · have HL := Lib.hid hl
        have hz1 : decide (((l.length : Nat) : Int) = 0) = true := decide_eq_true (by omega)
        have hz2 : (((l.length : Nat) : Int) == 0) = true := by rw [beq_iff_eq]; omega
        clear hl
        go_wp2_with (first | (refine Agg.wpList_box rfl 26 _ rfl (ndC (_, vb, vk)) rfl ?_; intro g1 w1 hb hx hg; have HB := Lib.hid hb; have HX := Lib.hid hx; have HS1 := Lib.hid (HSL.out.below hx); clear hb hx hg) | (with_reducible refine Agg.wpList_loadL (NdL.of_blk HB.out).kind rfl _ rfl rfl ?_) | (with_reducible refine Agg.wpList_loadL (NdL.of_blk HB.out).bytes rfl _ rfl rfl ?_) | (with_reducible refine Agg.wpList_loadL (NdL.of_blk HB.out).kids rfl _ rfl rfl ?_))
        go_ret
        exact ⟨ret_bool (by rw [alone_12 (by decide)]; have hl := HL.out; cases l <;> simp_all), HX.out⟩
      · have HL := Lib.hid hl
        have hz1 : decide (((l.length : Nat) : Int) = 0) = false := decide_eq_false (by omega)
        have hz2 : (((l.length : Nat) : Int) == 0) = false := by rw [beq_eq_false_iff_ne]; omega
        clear hl
        go_wp2_with (first | (refine Agg.wpList_box rfl 26 _ rfl (ndC (_, vb, vk)) rfl ?_; intro g1 w1 hb hx hg; have HB := Lib.hid hb; have HX := Lib.hid hx; have HS1 := Lib.hid (HSL.out.below hx); clear hb hx hg) | (with_reducible refine Agg.wpList_loadL (NdL.of_blk HB.out).kind rfl _ rfl rfl ?_) | (with_reducible refine Agg.wpList_loadL (NdL.of_blk HB.out).bytes rfl _ rfl rfl ?_) | (with_reducible refine Agg.wpList_loadL (NdL.of_blk HB.out).kids rfl _ rfl rfl ?_))
        go_ret
        exact ⟨ret_bool (by rw [alone_12 (by decide)]; have hl := HL.out; cases l <;> simp_all), HX.out⟩
    · have hbd : decide ((b.length : Int) ≤ 2048) = false := by simp; omega
      go_wp2_with (first | (refine Agg.wpList_box rfl 26 _ rfl (ndC (_, vb, vk)) rfl ?_; intro g1 w1 hb hx hg; have HB := Lib.hid hb; have HX := Lib.hid hx; have HS1 := Lib.hid (HSL.out.below hx); clear hb hx hg) | (with_reducible refine Agg.wpList_loadL (NdL.of_blk HB.out).kind rfl _ rfl rfl ?_) | (with_reducible refine Agg.wpList_loadL (NdL.of_blk HB.out).bytes rfl _ rfl rfl ?_) | (with_reducible refine Agg.wpList_loadL (NdL.of_blk HB.out).kids rfl _ rfl rfl ?_))
      go_ret
      exact ⟨ret_bool (by rw [alone_12 (by decide)]; simp [hb]), HX.out⟩
  have hk2 : decide (kx = 2) = false := by simpa using h2
  have hq2 : (kx == 2) = false := by simpa using h2
  by_cases h3 : kx = 3
  · subst h3
    by_cases hb : 1 ≤ b.length
    · have hbd : decide ((b.length : Int) ≥ 1) = true := by simp; omega
      have hbd2 : decide (1 ≤ (b.length : Int)) = true := by simp; omega
      by_cases hc : b.length ≤ 200
      · have hcd : decide ((b.length : Int) ≤ 200) = true := by simp; omega
        by_cases hl : l.length = 0
        · have HL := Lib.hid hl
          have hz1 : decide (((l.length : Nat) : Int) = 0) = true := decide_eq_true (by omega)
          have hz2 : (((l.length : Nat) : Int) == 0) = true := by rw [beq_iff_eq]; omega
          clear hl
          go_wp2_with (first | (refine Agg.wpList_box rfl 26 _ rfl (ndC (_, vb, vk)) rfl ?_; intro g1 w1 hb hx hg; have HB := Lib.hid hb; have HX := Lib.hid hx; have HS1 := Lib.hid (HSL.out.below hx); clear hb hx hg) | (with_reducible refine Agg.wpList_loadL (NdL.of_blk HB.out).kind rfl _ rfl rfl ?_) | (with_reducible refine Agg.wpList_loadL (NdL.of_blk HB.out).bytes rfl _ rfl rfl ?_) | (with_reducible refine Agg.wpList_loadL (NdL.of_blk HB.out).kids rfl _ rfl rfl ?_))
          go_ret
          exact ⟨ret_bool (by rw [alone_3]; have hl := HL.out; cases l <;> simp_all), HX.out⟩
        · have HL := Lib.hid hl
          have hz1 : decide (((l.length : Nat) : Int) = 0) = false := decide_eq_false (by omega)
          have hz2 : (((l.length : Nat) : Int) == 0) = false := by rw [beq_eq_false_iff_ne]; omega
          clear hl
          go_wp2_with (first | (refine Agg.wpList_box rfl 26 _ rfl (ndC (_, vb, vk)) rfl ?_; intro g1 w1 hb hx hg; have HB := Lib.hid hb; have HX := Lib.hid hx; have HS1 := Lib.hid (HSL.out.below hx); clear hb hx hg) | (with_reducible refine Agg.wpList_loadL (NdL.of_blk HB.out).kind rfl _ rfl rfl ?_) | (with_reducible refine Agg.wpList_loadL (NdL.of_blk HB.out).bytes rfl _ rfl rfl ?_) | (with_reducible refine Agg.wpList_loadL (NdL.of_blk HB.out).kids rfl _ rfl rfl ?_))
          go_ret
          exact ⟨ret_bool (by rw [alone_3]; have hl := HL.out; cases l <;> simp_all), HX.out⟩
      · have hcd : decide ((b.length : Int) ≤ 200) = false := by simp; omega
        go_wp2_with (first | (refine Agg.wpList_box rfl 26 _ rfl (ndC (_, vb, vk)) rfl ?_; intro g1 w1 hb hx hg; have HB := Lib.hid hb; have HX := Lib.hid hx; have HS1 := Lib.hid (HSL.out.below hx); clear hb hx hg) | (with_reducible refine Agg.wpList_loadL (NdL.of_blk HB.out).kind rfl _ rfl rfl ?_) | (with_reducible refine Agg.wpList_loadL (NdL.of_blk HB.out).bytes rfl _ rfl rfl ?_) | (with_reducible refine Agg.wpList_loadL (NdL.of_blk HB.out).kids rfl _ rfl rfl ?_))
        go_ret
        exact ⟨ret_bool (by rw [alone_3]; simp [hc]), HX.out⟩
    · have hbd : decide ((b.length : Int) ≥ 1) = false := by simp; omega
      have hbd2 : decide (1 ≤ (b.length : Int)) = false := by simp; omega
      go_wp2_with (first | (refine Agg.wpList_box rfl 26 _ rfl (ndC (_, vb, vk)) rfl ?_; intro g1 w1 hb hx hg; have HB := Lib.hid hb; have HX := Lib.hid hx; have HS1 := Lib.hid (HSL.out.below hx); clear hb hx hg) | (with_reducible refine Agg.wpList_loadL (NdL.of_blk HB.out).kind rfl _ rfl rfl ?_) | (with_reducible refine Agg.wpList_loadL (NdL.of_blk HB.out).bytes rfl _ rfl rfl ?_) | (with_reducible refine Agg.wpList_loadL (NdL.of_blk HB.out).kids rfl _ rfl rfl ?_))
      go_ret
      exact ⟨ret_bool (by rw [alone_3]; simp [hb]), HX.out⟩
  have hk3 : decide (kx = 3) = false := by simpa using h3
  have hq3 : (kx == 3) = false := by simpa using h3
  by_cases h4 : kx = 4
  · subst h4
    go_wp2_with (first | (refine Agg.wpList_box rfl 26 _ rfl (ndC (_, vb, vk)) rfl ?_; intro g1 w1 hb hx hg; have HB := Lib.hid hb; have HX := Lib.hid hx; have HS1 := Lib.hid (HSL.out.below hx); clear hb hx hg) | (with_reducible refine Agg.wpList_loadL (NdL.of_blk HB.out).kind rfl _ rfl rfl ?_))
    go_loopw [3] (fun i wr => ∃ q : Nat, q ≤ l.length ∧ q ≤ 201 ∧ i = .int .i64 (q : Int) ∧ named none (l.take q) = true ∧ Blk wr g1 26 (ndC (4, vb, vk)) ∧ Below w.heap.size w wr) (fun i _ => l.length - (intOf i).toNat)
    case atStart => exact ⟨0, by omega, by omega, rfl, rfl, HB.out, HX.out⟩
    case round =>
      obtain ⟨w2, rfl⟩ : ∃ y : World, y = wr := ⟨_, rfl⟩
      obtain ⟨q, hq, hq2, rfl, hnm, hb, hx⟩ := hrel
      have HNM := Lib.hid hnm
      have HB2 := Lib.hid hb
      have HX2 := Lib.hid hx
      have HSX := Lib.hid (HSL.out.below hx)
      clear hnm hb hx
      by_cases hlt : q < l.length
      · have hd : decide ((q : Int) < (l.length : Int)) = true := by simp; omega
        by_cases hq200 : q ≤ 200
        · have hd2 : decide ((q : Int) ≤ 200) = true := by simp; omega
          obtain ⟨z, hzk⟩ : ∃ z, l[q]? = some z := ⟨_, List.getElem?_eq_getElem hlt⟩
          obtain ⟨y, hyk, hyz⟩ := HN.out.at_ q z hzk
          obtain ⟨pp, hadr, hle⟩ := kid_at HSX.out q y hyk
          have HY := Lib.hid hle.name
          have HSN := Lib.hid (show named none (l.take (q + 1)) = (named none (l.take q) && nameOk (lastN none (l.take q)) z.1) by rw [take_succ' hzk, named_snoc])
          have HYZ := Lib.hid hyz
          have hyl : y.1.length ≤ 1048576 := by rw [hyz]; exact HLM.out z (List.mem_of_getElem? hzk)
          clear hle hyz hyk hzk
          have HBAD : Hid (nameOk (lastN none (l.take q)) z.1 = false → alone (.mk 4 b l) = false) := Lib.hid (fun h => by rw [alone_4, named_take (k := q + 1) (by rw [HSN.out, h, Bool.and_false]), Bool.and_false])
          have HNX : Hid (nameOk (lastN none (l.take q)) z.1 = true → named none (l.take (q + 1)) = true) := Lib.hid (fun h => by rw [HSN.out, h, HNM.out]; rfl)
          go_wp2_with (first | (with_reducible refine Agg.wpList_loadL (NdL.of_blk HB2.out).kids rfl _ rfl rfl ?_))
          cases hnx : isName z.1 with
          | false =>
            have HR := Lib.hid (HBAD.out (by simp [nameOk, hnx]))
            have HC := Lib.hid (fun W => refNameD y.1 (b := false) (by rw [HYZ.out]; exact hnx) hyl W)
            clear hnx
            try simp only [Act.put, List.setIfInBounds_toArray, List.set_cons_succ, List.set_cons_zero]
            refine Agg.wp_region_later_lit (by kernel_rfl) (by kernel_rfl) ?_
            repeat (first | go_big_quiet_skip | ((first | (with_reducible refine Agg.wpQuiet_loadL (NdL.of_blk HB2.out).kids rfl _ rfl rfl ?_) | (with_reducible refine Agg.wpQuiet_loadL HY.out rfl _ rfl rfl ?_)); simp only [Act.put, List.setIfInBounds_toArray, List.set_cons_succ, List.set_cons_zero]) | go_big_quiet_step (first | (go_at_call 68; first | (with_reducible exact Agg.Calls.later (HC.out _)))))
            refine wpQuiet_nil ?_
            intro _ hw'
            obtain ⟨x1, rfl⟩ := hw'
            go_wp2_with fail
            go_ret
            exact ⟨ret_bool HR.out.symm, Agg.belowThen HX2.out (Nat.le_refl _) x1.h⟩
          | true =>
            have HC := Lib.hid (fun W => refNameD y.1 (b := true) (by rw [HYZ.out]; exact hnx) hyl W)
            by_cases hk0 : q = 0
            · have hkd : decide (0 < (q : Int)) = false := by simp <;> omega
              have hkd2 : decide (0 < q) = false := by simp <;> omega
              have HG := Lib.hid (HNX.out (by subst hk0; simp [nameOk, hnx, lastN]))
              clear hnx hk0
              try simp only [Act.put, List.setIfInBounds_toArray, List.set_cons_succ, List.set_cons_zero]
              refine Agg.wp_region_later_lit (by kernel_rfl) (by kernel_rfl) ?_
              repeat (first | go_big_quiet_skip | ((first | (with_reducible refine Agg.wpQuiet_loadL (NdL.of_blk HB2.out).kids rfl _ rfl rfl ?_) | (with_reducible refine Agg.wpQuiet_loadL HY.out rfl _ rfl rfl ?_)); simp only [Act.put, List.setIfInBounds_toArray, List.set_cons_succ, List.set_cons_zero]) | go_big_quiet_step (first | (go_at_call 68; first | (with_reducible exact Agg.Calls.later (HC.out _)))))
              refine wpQuiet_nil ?_
              intro _ hw'
              obtain ⟨x1, rfl⟩ := hw'
              have HB5 := Lib.hid (HB2.out.below x1.h)
              have hx6 := Agg.belowThen HX2.out (Nat.le_refl _) x1.h
              go_wp2_with fail
              go_roundw
              case rel => exact ⟨q + 1, by omega, by omega, by go_num, HG.out, HB5.out, hx6⟩
              case measure => simp [intOf]; omega
            · have hkd : 0 < q := by omega
              have hkd2 : decide (0 < q) = true := by simpa using hkd
              obtain ⟨u, huk⟩ : ∃ u, l[q - 1]? = some u := ⟨_, List.getElem?_eq_getElem (by omega)⟩
              obtain ⟨s, hsk, hsu⟩ := HN.out.at_ (q - 1) u huk
              obtain ⟨pq, hadq, hlq⟩ := kid_at HSX.out (q - 1) s hsk
              have hlz := lastN_take hkd huk
              have HQ := Lib.hid hlq.name
              have hwr := i64_predK q (by omega) (by omega)
              cases hbl : Op.bytesLess u.1 z.1 with
              | false =>
                have HR := Lib.hid (HBAD.out (by rw [hlz]; simp [nameOk, hbl]))
                have HGE := Lib.hid (show (!Op.bytesLess s.1 y.1) = true by rw [hsu, HYZ.out, hbl]; rfl)
                clear hnx hbl hlq hsk hsu hlz huk
                try simp only [Act.put, List.setIfInBounds_toArray, List.set_cons_succ, List.set_cons_zero]
                refine Agg.wp_region_later_lit (by kernel_rfl) (by kernel_rfl) ?_
                repeat (first | go_big_quiet_skip | ((first | (with_reducible refine Agg.wpQuiet_loadL (NdL.of_blk HB2.out).kids rfl _ rfl rfl ?_) | (with_reducible refine Agg.wpQuiet_loadL HY.out rfl _ rfl rfl ?_) | (with_reducible refine Agg.wpQuiet_loadL HQ.out rfl _ rfl rfl ?_) | (with_reducible refine wpQuiet_geqS rfl rfl rfl rfl true HGE.out ?_)); simp only [Act.put, List.setIfInBounds_toArray, List.set_cons_succ, List.set_cons_zero]) | go_big_quiet_step (first | (go_at_call 68; first | (with_reducible exact Agg.Calls.later (HC.out _)))))
                refine wpQuiet_nil ?_
                intro _ hw'
                obtain ⟨x1, rfl⟩ := hw'
                go_wp2_with fail
                go_ret
                exact ⟨ret_bool HR.out.symm, Agg.belowThen HX2.out (Nat.le_refl _) x1.h⟩
              | true =>
                have HG := Lib.hid (HNX.out (by rw [hlz]; simp [nameOk, hnx, hbl]))
                have HGE := Lib.hid (show (!Op.bytesLess s.1 y.1) = false by rw [hsu, HYZ.out, hbl]; rfl)
                clear hnx hbl hlq hsk hsu hlz huk
                try simp only [Act.put, List.setIfInBounds_toArray, List.set_cons_succ, List.set_cons_zero]
                refine Agg.wp_region_later_lit (by kernel_rfl) (by kernel_rfl) ?_
                repeat (first | go_big_quiet_skip | ((first | (with_reducible refine Agg.wpQuiet_loadL (NdL.of_blk HB2.out).kids rfl _ rfl rfl ?_) | (with_reducible refine Agg.wpQuiet_loadL HY.out rfl _ rfl rfl ?_) | (with_reducible refine Agg.wpQuiet_loadL HQ.out rfl _ rfl rfl ?_) | (with_reducible refine wpQuiet_geqS rfl rfl rfl rfl false HGE.out ?_)); simp only [Act.put, List.setIfInBounds_toArray, List.set_cons_succ, List.set_cons_zero]) | go_big_quiet_step (first | (go_at_call 68; first | (with_reducible exact Agg.Calls.later (HC.out _)))))
                refine wpQuiet_nil ?_
                intro _ hw'
                obtain ⟨x1, rfl⟩ := hw'
                have HB5 := Lib.hid (HB2.out.below x1.h)
                have hx6 := Agg.belowThen HX2.out (Nat.le_refl _) x1.h
                go_wp2_with fail
                go_roundw
                case rel => exact ⟨q + 1, by omega, by omega, by go_num, HG.out, HB5.out, hx6⟩
                case measure => simp [intOf]; omega
        · have hd2 : decide ((q : Int) ≤ 200) = false := by simp; omega
          by_cases hb0 : b.length = 0
          · have HB0 := Lib.hid hb0
            have hz1 : decide (((b.length : Nat) : Int) = 0) = true := decide_eq_true (by omega)
            have hz2 : (((b.length : Nat) : Int) == 0) = true := by rw [beq_iff_eq]; omega
            have hl2 : decide ((l.length : Int) ≤ 200) = false := by simp; omega
            clear hb0
            go_wp2_with (first | (with_reducible refine Agg.wpList_loadL (NdL.of_blk HB2.out).bytes rfl _ rfl rfl ?_) | (with_reducible refine Agg.wpList_loadL (NdL.of_blk HB2.out).kids rfl _ rfl rfl ?_))
            go_ret
            exact ⟨ret_bool (by rw [alone_4]; have : ¬ l.length ≤ 200 := (by omega); simp [this]), HX2.out⟩
          · have HB0 := Lib.hid hb0
            have hz1 : decide (((b.length : Nat) : Int) = 0) = false := decide_eq_false (by omega)
            have hz2 : (((b.length : Nat) : Int) == 0) = false := by rw [beq_eq_false_iff_ne]; omega
            have hl2 : decide ((l.length : Int) ≤ 200) = false := by simp; omega
            clear hb0
            go_wp2_with (first | (with_reducible refine Agg.wpList_loadL (NdL.of_blk HB2.out).bytes rfl _ rfl rfl ?_) | (with_reducible refine Agg.wpList_loadL (NdL.of_blk HB2.out).kids rfl _ rfl rfl ?_))
            go_ret
            exact ⟨ret_bool (by rw [alone_4]; have : ¬ l.length ≤ 200 := (by omega); simp [this]), HX2.out⟩
      · obtain rfl : q = l.length := by omega
        have hd1 : decide (((l.length : Nat) : Int) < ((l.length : Nat) : Int)) = false := by simp
        have HR := Lib.hid (show named none l = true by have := HNM.out; rwa [List.take_length] at this)
        by_cases hb0 : b.length = 0
        · have HB0 := Lib.hid hb0
          have hz1 : decide (((b.length : Nat) : Int) = 0) = true := decide_eq_true (by omega)
          have hz2 : (((b.length : Nat) : Int) == 0) = true := by rw [beq_iff_eq]; omega
          clear hb0
          by_cases hl2 : l.length ≤ 200
          · have hl3 : decide ((l.length : Int) ≤ 200) = true := by simp; omega
            go_wp2_with (first | (with_reducible refine Agg.wpList_loadL (NdL.of_blk HB2.out).bytes rfl _ rfl rfl ?_) | (with_reducible refine Agg.wpList_loadL (NdL.of_blk HB2.out).kids rfl _ rfl rfl ?_))
            go_ret
            exact ⟨ret_bool (by rw [alone_4, HR.out]; have h0 := HB0.out; cases b <;> simp_all), HX2.out⟩
          · have hl3 : decide ((l.length : Int) ≤ 200) = false := by simp; omega
            go_wp2_with (first | (with_reducible refine Agg.wpList_loadL (NdL.of_blk HB2.out).bytes rfl _ rfl rfl ?_) | (with_reducible refine Agg.wpList_loadL (NdL.of_blk HB2.out).kids rfl _ rfl rfl ?_))
            go_ret
            exact ⟨ret_bool (by rw [alone_4, HR.out]; have h0 := HB0.out; cases b <;> simp_all), HX2.out⟩
        · have HB0 := Lib.hid hb0
          have hz1 : decide (((b.length : Nat) : Int) = 0) = false := decide_eq_false (by omega)
          have hz2 : (((b.length : Nat) : Int) == 0) = false := by rw [beq_eq_false_iff_ne]; omega
          clear hb0
          go_wp2_with (first | (with_reducible refine Agg.wpList_loadL (NdL.of_blk HB2.out).bytes rfl _ rfl rfl ?_) | (with_reducible refine Agg.wpList_loadL (NdL.of_blk HB2.out).kids rfl _ rfl rfl ?_))
          go_ret
          exact ⟨ret_bool (by rw [alone_4, HR.out]; have h0 := HB0.out; cases b <;> simp_all), HX2.out⟩
  have hk4 : decide (kx = 4) = false := by simpa using h4
  have hq4 : (kx == 4) = false := by simpa using h4
  go_wp2_with (first | (refine Agg.wpList_box rfl 26 _ rfl (ndC (_, vb, vk)) rfl ?_; intro g1 w1 hb hx hg; have HB := Lib.hid hb; have HX := Lib.hid hx; have HS1 := Lib.hid (HSL.out.below hx); clear hb hx hg) | (with_reducible refine Agg.wpList_loadL (NdL.of_blk HB.out).kind rfl _ rfl rfl ?_) | (with_reducible refine Agg.wpList_loadL (NdL.of_blk HB.out).bytes rfl _ rfl rfl ?_) | (with_reducible refine Agg.wpList_loadL (NdL.of_blk HB.out).kids rfl _ rfl rfl ?_))
  go_ret
  exact ⟨ret_bool (alone_no h1 h2 h3 h4).symm, HX.out⟩
end Go.Proofs.YtfiadgdinhmgbaaDoor
/-! spenceref08.nodes: how many nodes, if all are right. No program in sight. -/
namespace Go.Tr
mutual
def nodesR : T → Nat → Nat → Nat
  | .mk k b l, left, d => if left < 1 ∨ d < 1 ∨ alone (.mk k b l) = false then 0 else nodesL l left (d - 1) 1
/-- a round: so many already -/
def nodesL : List K → Nat → Nat → Nat → Nat
  | [], _, _, all => all
  | (_, t) :: l, left, d, all => if nodesR t (left - all) d = 0 then 0 else nodesL l left d (all + nodesR t (left - all) d)
end
mutual
theorem nodesR_eq : ∀ (t : T) (left d : Nat), nodesR t left d = if ok t = true ∧ count t ≤ left ∧ deep t ≤ d then count t else 0
  | .mk k b l, left, d => by
    have ih := nodesL_eq l left (d - 1) 1
    rw [nodesR]
    simp only [ok, count, deep, Bool.and_eq_true]
    by_cases ha : alone (.mk k b l) = true
    · by_cases hl : left < 1
      · rw [if_pos (.inl hl), if_neg (by omega)]
      · by_cases hd : d < 1
        · rw [if_pos (.inr (.inl hd)), if_neg (by omega)]
        · rw [if_neg (by simp [ha]; omega), ih (by omega) (by omega)]
          by_cases hc : okL l = true ∧ 1 + countL l ≤ left ∧ deepL l ≤ d - 1
          · rw [if_pos hc, if_pos ⟨⟨ha, hc.1⟩, hc.2.1, by omega⟩]
          · rw [if_neg hc, if_neg]
            rintro ⟨⟨_, h1⟩, h2, h3⟩
            exact hc ⟨h1, h2, by omega⟩
    · rw [if_pos (.inr (.inr (by simpa using ha))), if_neg]
      rintro ⟨⟨h, _⟩, _⟩
      exact ha h
theorem nodesL_eq : ∀ (l : List K) (left d all : Nat), 0 < all → all ≤ left → nodesL l left d all = if okL l = true ∧ all + countL l ≤ left ∧ deepL l ≤ d then all + countL l else 0
  | [], left, d, all, h, hl => by
    simp [nodesL, okL, countL, deepL, hl]
  | (n, t) :: l, left, d, all, h, hl => by
    have e := nodesR_eq t (left - all) d
    have hp := count_pos t
    rw [nodesL]
    simp only [okL, countL, deepL, Bool.and_eq_true]
    by_cases hc : ok t = true ∧ count t ≤ left - all ∧ deep t ≤ d
    · rw [if_pos hc] at e
      rw [e, if_neg (by omega), nodesL_eq l left d (all + count t) (by omega) (by omega)]
      by_cases hc2 : okL l = true ∧ all + count t + countL l ≤ left ∧ deepL l ≤ d
      · rw [if_pos hc2, if_pos ⟨⟨hc.1, hc2.1⟩, by omega, by omega⟩]; omega
      · rw [if_neg hc2, if_neg]
        rintro ⟨⟨_, h1⟩, h2, h3⟩
        exact hc2 ⟨h1, by omega, by omega⟩
    · rw [if_neg hc] at e
      rw [e, if_pos rfl, if_neg]
      rintro ⟨⟨h1, _⟩, h2, h3⟩
      exact hc ⟨h1, by omega, by omega⟩
end
/-- the document's right is the program's -/
theorem nodesR_right (t : T) : decide (0 < nodesR t 200 8) = right t := by
  have hp := count_pos t
  rw [nodesR_eq, right, lookB, Bool.eq_iff_iff, decide_eq_true_iff]
  simp only [Bool.and_eq_true, decide_eq_true_eq]
  constructor
  · intro h
    split at h
    · next hc => exact ⟨⟨hc.1, by omega⟩, by omega⟩
    · omega
  · rintro ⟨⟨h1, h2⟩, h3⟩
    rw [if_pos ⟨h1, by omega, by omega⟩]; exact hp
end Go.Tr
