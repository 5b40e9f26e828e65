/- A cursor as a state: the plain law of numbers, texts, hashes. (Several texts in one.) -/
import Derived.Test.YtdebbmembkbniaaGreatTAO
import Derived.Test.YtdebbmembkbniaaGreatTAA
/-! code.Over; code.Cursor: Raw, Text, End. -/
namespace Go.Proofs.YtdebbmembkbniaaGreat
open Go.RowKit Pl Go.Agg
theorem runHigh (p : Option Addr) (n c k : Nat) (hk : k ≤ c) (W : World) : (Instr.sliceAt 23 (.slice p n c) none (some (.int .i64 (k : Int))) none).run Tryz.prog W = .ok (.slice p k c) W := by
 have hu : Tryz.prog.underlying 23 = some (.slice 5) := by kernel_rfl
 have hp : (p.map fun x => x.add 0) = p := by cases p <;> rfl
 simp [Instr.sliceAt, Instr.slice, Instr.sliceBounds, Instr.sliceBound, run_underlying hu, Sem.run_bind, asIntOf, hk, hp]
theorem rest_high {base : Nat} {w : World} {v : Value} {r : List UInt8} (h : Rest base w v r) (k : Nat) (hk : k ≤ r.length) :
  ∃ vx, (∀ W, (Instr.sliceAt 23 v none (some (.int .i64 (k : Int))) none).run Tryz.prog W = .ok vx W) ∧ BytesAt w vx (r.take k) := by
 have hs := h.slice
 have hc := h.cap
 obtain ⟨q, c, rfl⟩ := hs.form
 exact ⟨_, fun W => runHigh q r.length c k (by have := hc _ _ _ rfl; omega) W, sliceOf_taken hs k hk⟩
set_option maxRecDepth 100000 in
set_option maxHeartbeats 1000000 in
theorem over_any (x : Value) (l : List UInt8) (w : World) (hl : l.length ≤ 16777216) (hx : BytesAt w x l) :
  Calls Tryz.prog 40 #[x] w fun e w' => ∃ g v, e = .returned (.pointer (some ⟨g, 0, none⟩)) ∧ w.heap.size ≤ g ∧ CuV w.heap.size g w' v l 0 ∧ Below w.heap.size w w' := by
 have HX := Lib.hid hx
 clear hx
 go_enter Tryz.func40, Tryz.ntmps40
 go_wp2_with fail
 refine (bclone_any x l w (by omega) HX.out).mono ?_
 rintro e w1 ⟨v1, rfl, ho1, hx1⟩
 have HR1 := Lib.hid (Rest.of_own ho1)
 have HX1 := Lib.hid hx1
 obtain ⟨q, c, hf⟩ := ho1.slice.form
 have hb : ∀ W, (Instr.build 158 #[(0, v1)]).run Tryz.prog W = .ok (.agg (cuC v1 0)) W := fun W => by rw [hf]; kernel_rfl
 have HB := Lib.hid hb
 have hsz := hx1.size
 clear ho1 hx1 hf hb
 go_wp2_with (first | (with_reducible refine wpList_build1 158 0 _ rfl rfl v1 rfl (.agg (cuC v1 0)) HB.out ?_) | (with_reducible refine wpList_box rfl 158 _ rfl (cuC v1 0) rfl ?_; intro g w2 hb2 hx2 hg2; have HB2 := Lib.hid hb2; have HX2 := Lib.hid hx2; clear hb2 hx2))
 go_ret
 exact ⟨g, v1, rfl, Nat.le_trans hsz hg2, ⟨HB2.out, HR1.out.below HX2.out⟩, belowThen HX1.out (Nat.le_refl _) HX2.out⟩
def CBad (base g : Nat) (w' : World) : Prop := ∃ e, e ≠ 0 ∧ CuV base g w' (.slice none 0 0) [] e
def CRaw (base g many : Nat) (r : List UInt8) (e : Nat) (B : Nat) (x : Ending) (w' : World) : Prop :=
 (e = 0 ∧ many ≤ r.length ∧ ∃ u v', x = .returned u ∧ Own EB B w' u (r.take many) ∧ CuV base g w' v' (r.drop many) 0) ∨
 ((e ≠ 0 ∨ r.length < many) ∧ x = .returned (.slice none 0 0) ∧ CBad base g w')
set_option maxRecDepth 100000 in
set_option maxHeartbeats 2000000 in
theorem craw_any (base g many : Nat) (v : Value) (r : List UInt8) (e : Nat) (w : World) (hr : r.length ≤ 16777216) (hmo : many ≤ 1099511627776) (hm : CuV base g w v r e) :
  Calls Tryz.prog 81 #[.pointer (some ⟨g, 0, none⟩), .int .i64 (many : Int)] w fun x w' => CRaw base g many r e w.heap.size x w' ∧ Only (· = g) w w' := by
 have hlr := fun W => bytes_len hm.rest.slice W
 have HM := Lib.hid hm
 clear hm
 by_cases h0 : e = 0
 ·subst h0
  by_cases hle : many ≤ r.length
  ·have hI : ¬ (r.length : Int) < (many : Int) := by omega
   have hIN : ¬ r.length < many := by omega
   obtain ⟨vx, hsv, hbx⟩ := rest_high HM.out.rest many hle
   have HBX := Lib.hid hbx
   have HLE := Lib.hid hle
   clear hbx hle
   go_enter Tryz.func81, Tryz.ntmps81
   go_wp2_with (first | (with_reducible refine wpList_loadL HM.out.load rfl _ rfl rfl ?_) | (with_reducible refine wpList_loadL HM.out.err rfl _ rfl rfl ?_))
   refine (bclone_any vx (r.take many) w (by simp; omega) HBX.out).mono ?_
   rintro x w1 ⟨u1, rfl, ho1, hx1⟩
   have HM1 := Lib.hid (HM.out.below hx1)
   obtain ⟨vy, hsy, hry, hyc, hy1⟩ := rest_low HM1.out.rest many HLE.out
   obtain ⟨w2, hrun, hb2, ho2, hr2⟩ := HM1.out.put (ty := 23) 0 (by omega) vy hyc hy1 (by kernel_rfl)
   have HCU := Lib.hid (show CuV base g w2 vy (r.drop many) 0 from ⟨hb2, hr2 hry⟩)
   have HOW := Lib.hid (show Own EB w.heap.size w2 u1 (r.take many) from ho1.keepT fun k cur fr hk => (ho2.block k (Agg.heap_lt hk) (fun h => by
    obtain rfl : k = g := h
    have hb := HM1.out.blk
    unfold Blk at hb
    rw [hk] at hb
    injection hb with hb
    injection hb with _ hb
    exact absurd hb (by decide))).trans hk)
   have HON := Lib.hid ((Only.of_below (S := (· = g)) hx1).trans ho2 fun _ _ h => h)
   clear ho1 hx1 hry hyc hy1 hb2 ho2 hr2
   go_wp2_with (first | (with_reducible refine wpList_loadL HM1.out.load rfl _ rfl rfl ?_) | (refine wpList_store rfl rfl 23 _ _ rfl (.pointer (some ⟨g, 0, none⟩)) _ rfl rfl hrun ?_))
   go_ret
   exact ⟨.inl ⟨rfl, HLE.out, u1, vy, rfl, HOW.out, HCU.out⟩, HON.out⟩
  ·have hI : (r.length : Int) < (many : Int) := by omega
   have hIN : r.length < many := by omega
   clear hle
   go_enter Tryz.func81, Tryz.ntmps81
   go_wp2_with (first | (with_reducible refine wpList_loadL HM.out.load rfl _ rfl rfl ?_) | (with_reducible refine wpList_loadL HM.out.err rfl _ rfl rfl ?_))
   refine (fail_any base g v r 0 4 _ HM.out).mono ?_
   rintro x w9 ⟨⟨rr, rfl⟩, hcu, hon⟩
   have HCU := Lib.hid hcu
   have HON := Lib.hid hon
   clear hcu hon
   go_wp2_with fail
   go_ret
   exact ⟨.inr ⟨.inr hIN, rfl, 4, by omega, HCU.out⟩, HON.out⟩
 ·have hq : ((e : Int) != 0) = true := by simp [h0]
  have H0 := Lib.hid h0
  clear h0
  go_enter Tryz.func81, Tryz.ntmps81
  go_wp2_with (first | (with_reducible refine wpList_loadL HM.out.load rfl _ rfl rfl ?_) | (with_reducible refine wpList_loadL HM.out.err rfl _ rfl rfl ?_))
  refine (fail_any base g v r e 4 _ HM.out).mono ?_
  rintro x w9 ⟨⟨rr, rfl⟩, hcu, hon⟩
  rw [if_neg H0.out] at hcu
  have HCU := Lib.hid hcu
  have HON := Lib.hid hon
  clear hcu hon
  go_wp2_with fail
  go_ret
  exact ⟨.inr ⟨.inl H0.out, rfl, e, H0.out, HCU.out⟩, HON.out⟩
set_option maxRecDepth 100000 in
set_option maxHeartbeats 1000000 in
theorem cend_any (base g : Nat) (v : Value) (r : List UInt8) (e : Nat) (w : World) (hm : CuV base g w v r e) :
  Calls Tryz.prog 45 #[.pointer (some ⟨g, 0, none⟩)] w fun x w' => (∃ c : Nat, x = .returned (.int .i64 (c : Int)) ∧ (c = 0 ↔ e = 0 ∧ r = [])) ∧ w' = w := by
 have hlr := fun W => bytes_len hm.rest.slice W
 have HM := Lib.hid hm
 clear hm
 by_cases h0 : e = 0
 ·subst h0
  cases r with
  | nil =>
   go_enter Tryz.func45, Tryz.ntmps45
   go_wp2_with (first | (with_reducible refine wpList_loadL HM.out.load rfl _ rfl rfl ?_) | (with_reducible refine wpList_loadL HM.out.err rfl _ rfl rfl ?_))
   go_ret
   exact ⟨⟨0, rfl, by simp⟩, rfl⟩
  | cons b t =>
   have hI : (0 : Int) < ((b :: t).length : Int) := by simp
   obtain ⟨n, hn⟩ : ∃ n, (b :: t).length = n := ⟨_, rfl⟩
   rw [hn] at hI hlr
   clear hn
   go_enter Tryz.func45, Tryz.ntmps45
   go_wp2_with (first | (with_reducible refine wpList_loadL HM.out.load rfl _ rfl rfl ?_) | (with_reducible refine wpList_loadL HM.out.err rfl _ rfl rfl ?_))
   go_ret
   exact ⟨⟨4, rfl, by simp⟩, rfl⟩
 ·have hq : ((e : Int) == 0) = false := by simp [h0]
  have H0 := Lib.hid h0
  clear h0
  go_enter Tryz.func45, Tryz.ntmps45
  go_wp2_with (first | (with_reducible refine wpList_loadL HM.out.load rfl _ rfl rfl ?_) | (with_reducible refine wpList_loadL HM.out.err rfl _ rfl rfl ?_))
  go_ret
  exact ⟨⟨e, rfl, fun h => absurd h H0.out, fun h => absurd h.1 H0.out⟩, rfl⟩
def getT (most : Nat) (b : List UInt8) : Option (List UInt8 × List UInt8) :=
 match getN 1099511627776 b with
 | none => none
 | some (n, y) => if n ≤ most ∧ n ≤ y.length then some (y.take n, y.drop n) else none
def CText (base g most : Nat) (r : List UInt8) (e : Nat) (B : Nat) (x : Ending) (w' : World) : Prop :=
 (e = 0 ∧ ∃ l y u v', getT most r = some (l, y) ∧ x = .returned u ∧ Own EB B w' u l ∧ CuV base g w' v' y 0) ∨
 ((e ≠ 0 ∨ getT most r = none) ∧ x = .returned (.slice none 0 0) ∧ CBad base g w')
theorem getN_le {most n : Nat} {b y : List UInt8} (h : getN most b = some (n, y)) : y.length ≤ b.length := by
 obtain ⟨rfl, _⟩ := getN_some h
 simp
set_option maxRecDepth 100000 in
set_option maxHeartbeats 2000000 in
theorem ctext_any (base g most : Nat) (v : Value) (r : List UInt8) (e : Nat) (w : World) (hr : r.length ≤ 16777216) (he : e ≠ 0 → r = []) (hm : CuV base g w v r e) :
  Calls Tryz.prog 44 #[.pointer (some ⟨g, 0, none⟩), .int .i64 (most : Int)] w fun x w' => CText base g most r e w.heap.size x w' ∧ Only (· = g) w w' := by
 have HM := Lib.hid hm
 clear hm
 go_enter Tryz.func44, Tryz.ntmps44
 go_wp2_with fail
 refine (cnum_any base g 1099511627776 v r e w hr (by omega) HM.out).mono ?_
 rintro x w1 ⟨⟨n, y, v1, hg, rfl, hcu⟩ | ⟨hg, rfl, hcu⟩, hon⟩
 ·have he0 : e = 0 := Decidable.byContradiction fun h => by
   have h1 := he h
   subst h1
   have : getN 1099511627776 ([] : List UInt8) = none := by decide
   rw [this] at hg
   cases hg
  subst he0
  have HG := Lib.hid hg
  have HM1 := Lib.hid hcu
  have HON1 := Lib.hid hon
  have hyl := getN_le hg
  have hn40 := (getN_some hg).2.2
  clear hg hcu hon
  by_cases hnm : n ≤ most
  ·have hI : ¬ (most : Int) < (n : Int) := by omega
   have HNM := Lib.hid hnm
   clear hnm
   go_wp2_with (first | (with_reducible refine wpList_loadL HM1.out.err rfl _ rfl rfl ?_))
   refine (craw_any base g n v1 y 0 w1 (by omega) hn40 HM1.out).mono ?_
   rintro x w2 ⟨⟨_, hny, u, v2, rfl, hou, hcu⟩ | ⟨hor, rfl, hbad⟩, hon⟩
   ·have HT := Lib.hid (show getT most r = some (y.take n, y.drop n) by unfold getT; rw [HG.out]; exact if_pos ⟨HNM.out, hny⟩)
    have HOU := Lib.hid (hou.lower HON1.out.size)
    have HCU := Lib.hid hcu
    have HON := Lib.hid (HON1.out.trans hon fun _ _ h => h)
    clear hou hcu hon hny
    go_wp2_with fail
    go_ret
    exact ⟨.inl ⟨rfl, _, _, u, v2, HT.out, rfl, HOU.out, HCU.out⟩, HON.out⟩
   ·have HT := Lib.hid (show getT most r = none by
     unfold getT
     rw [HG.out]
     exact if_neg fun h => by
      rcases hor with h0 | h0
      ·exact h0 rfl
      ·omega)
    have HBAD := Lib.hid hbad
    have HON := Lib.hid (HON1.out.trans hon fun _ _ h => h)
    clear hor hbad hon
    go_wp2_with fail
    go_ret
    exact ⟨.inr ⟨.inr HT.out, rfl, HBAD.out⟩, HON.out⟩
  ·have hI : (most : Int) < (n : Int) := by omega
   have HT := Lib.hid (show getT most r = none by unfold getT; rw [HG.out]; exact if_neg fun h => hnm h.1)
   clear hnm
   go_wp2_with (first | (with_reducible refine wpList_loadL HM1.out.err rfl _ rfl rfl ?_))
   refine (fail_any base g v1 y 0 3 _ HM1.out).mono ?_
   rintro x w2 ⟨⟨rr, rfl⟩, hcu, hon⟩
   have HCU := Lib.hid hcu
   have HON := Lib.hid (HON1.out.trans hon fun _ _ h => h)
   clear hcu hon
   go_wp2_with fail
   go_ret
   exact ⟨.inr ⟨.inr HT.out, rfl, 3, by omega, HCU.out⟩, HON.out⟩
 ·have hne : (if e = 0 then 4 else e) ≠ 0 := by split <;> omega
  obtain ⟨e2, he2⟩ : ∃ e2, (if e = 0 then 4 else e) = e2 := ⟨_, rfl⟩
  rw [he2] at hcu hne
  have hq : ((e2 : Int) != 0) = true := by simp [hne]
  have HNE := Lib.hid hne
  have HM1 := Lib.hid hcu
  have HON1 := Lib.hid hon
  have HT := Lib.hid (show getT most r = none by unfold getT; rw [hg])
  clear hg hcu hon he2 hne
  go_wp2_with (first | (with_reducible refine wpList_loadL HM1.out.err rfl _ rfl rfl ?_))
  go_ret
  exact ⟨.inr ⟨.inr HT.out, rfl, e2, HNE.out, HM1.out⟩, HON1.out⟩
end Go.Proofs.YtdebbmembkbniaaGreat
/-! A cursor as a state: the plain law of numbers, texts, hashes. -/
namespace Go.Proofs.YtdebbmembkbniaaGreat
open Go.RowKit Pl Go.Agg
/-! A cursor as a state: the bytes that are left; none, once something was wrong. -/
def sNum (most : Nat) : Option (List UInt8) → Nat × Option (List UInt8)
 | none => (0, none)
 | some r => match getN most r with
  | none => (0, none)
  | some p => (p.1, some p.2)
def sText (most : Nat) : Option (List UInt8) → List UInt8 × Option (List UInt8)
 | none => ([], none)
 | some r => match getT most r with
  | none => ([], none)
  | some p => (p.1, some p.2)
def sRaw (many : Nat) : Option (List UInt8) → List UInt8 × Option (List UInt8)
 | none => ([], none)
 | some r => if many ≤ r.length then (r.take many, some (r.drop many)) else ([], none)
def sHash (s : Option (List UInt8)) : List UInt8 × Option (List UInt8) := ((sRaw 20 s).1 ++ z20.drop (sRaw 20 s).1.length, (sRaw 20 s).2)
def encT (l : List UInt8) : List UInt8 := encN l.length ++ l
theorem sNum_some {most n : Nat} {s : Option (List UInt8)} {y : List UInt8} (h : sNum most s = (n, some y)) : s = some (encN n ++ y) ∧ n ≤ most ∧ n ≤ 1099511627776 := by
 cases s with
 | none => simp [sNum] at h
 | some r =>
  simp only [sNum] at h
  cases hg : getN most r with
  | none => rw [hg] at h; simp at h
  | some p =>
   rw [hg] at h
   obtain ⟨n', y'⟩ := p
   simp only [Prod.mk.injEq, Option.some.injEq] at h
   obtain ⟨rfl, rfl⟩ := h
   obtain ⟨h1, h2, h3⟩ := getN_some hg
   exact ⟨by rw [← h1], h2, h3⟩
theorem getT_some {most : Nat} {l r y : List UInt8} (h : getT most r = some (l, y)) : r = encT l ++ y ∧ l.length ≤ most := by
 unfold getT at h
 split at h
 ·cases h
 ·rename_i n z hg
  split at h
  ·rename_i hc
   obtain ⟨h1, _, _⟩ := getN_some hg
   simp only [Option.some.injEq, Prod.mk.injEq] at h
   obtain ⟨rfl, rfl⟩ := h
   have hl : (z.take n).length = n := by simp; omega
   unfold encT
   rw [hl, List.append_assoc, List.take_append_drop]
   exact ⟨h1, by omega⟩
  ·cases h
theorem sText_some {most : Nat} {s : Option (List UInt8)} {l y : List UInt8} (h : sText most s = (l, some y)) : s = some (encT l ++ y) ∧ l.length ≤ most := by
 cases s with
 | none => simp [sText] at h
 | some r =>
  simp only [sText] at h
  cases hg : getT most r with
  | none => rw [hg] at h; simp at h
  | some p =>
   rw [hg] at h
   obtain ⟨n', y'⟩ := p
   simp only [Prod.mk.injEq, Option.some.injEq] at h
   obtain ⟨rfl, rfl⟩ := h
   obtain ⟨h1, h2⟩ := getT_some hg
   exact ⟨by rw [← h1], h2⟩
theorem sHash_some {s : Option (List UInt8)} {h y : List UInt8} (e : sHash s = (h, some y)) : s = some (h ++ y) ∧ h.length = 20 := by
 unfold sHash at e
 cases s with
 | none => simp [sRaw] at e
 | some r =>
  simp only [sRaw] at e
  by_cases hl : 20 ≤ r.length
  ·rw [if_pos hl] at e
   simp only [Prod.mk.injEq, Option.some.injEq] at e
   obtain ⟨rfl, rfl⟩ := e
   have : (r.take 20).length = 20 := by simp; omega
   rw [this]
   simp [z20]
   omega
  ·rw [if_neg hl] at e
   simp at e
theorem sHash_length (s : Option (List UInt8)) : (sHash s).1.length = 20 := by
 unfold sHash
 cases s with
 | none => simp [sRaw, z20]
 | some r =>
  simp only [sRaw]
  by_cases hl : 20 ≤ r.length
  ·rw [if_pos hl]
   simp [z20]; omega
  ·rw [if_neg hl]
   simp [z20]
def stLen : Option (List UInt8) → Nat
 | none => 0
 | some r => r.length
theorem sNum_len (most : Nat) (s : Option (List UInt8)) : stLen (sNum most s).2 ≤ stLen s := by
 cases h : (sNum most s).2 with
 | none => simp [stLen]
 | some y =>
  obtain ⟨h1, _⟩ := sNum_some (Prod.ext (rfl : (sNum most s).1 = (sNum most s).1) h)
  rw [h1]
  simp only [stLen, List.length_append]
  omega
theorem sNum_le (most : Nat) (s : Option (List UInt8)) : (sNum most s).1 ≤ most := by
 cases h : (sNum most s).2 with
 | none =>
  cases s with
  | none => simp [sNum]
  | some r =>
   simp only [sNum] at h ⊢
   cases hg : getN most r with
   | none => simp
   | some p => rw [hg] at h; simp at h
 | some y => exact (sNum_some (Prod.ext (rfl : (sNum most s).1 = (sNum most s).1) h)).2.1
theorem sText_len (most : Nat) (s : Option (List UInt8)) : stLen (sText most s).2 ≤ stLen s := by
 cases h : (sText most s).2 with
 | none => simp [stLen]
 | some y =>
  obtain ⟨h1, _⟩ := sText_some (Prod.ext (rfl : (sText most s).1 = (sText most s).1) h)
  rw [h1]
  simp only [stLen, List.length_append]
  omega
theorem sText_le (most : Nat) (s : Option (List UInt8)) : (sText most s).1.length ≤ most := by
 cases h : (sText most s).2 with
 | none =>
  cases s with
  | none => simp [sText]
  | some r =>
   simp only [sText] at h ⊢
   cases hg : getT most r with
   | none => simp
   | some p => rw [hg] at h; simp at h
 | some y => exact (sText_some (Prod.ext (rfl : (sText most s).1 = (sText most s).1) h)).2
theorem sRaw_len (many : Nat) (s : Option (List UInt8)) : stLen (sRaw many s).2 ≤ stLen s := by
 cases s with
 | none => simp [sRaw]
 | some r =>
  simp only [sRaw]
  split <;> simp [stLen]
end Go.Proofs.YtdebbmembkbniaaGreat
