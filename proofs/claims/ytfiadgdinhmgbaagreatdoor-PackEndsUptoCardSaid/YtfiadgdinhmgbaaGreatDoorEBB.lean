/- spenceref01.Cursor: Num, Text. (Several texts in one.) -/
import Derived.Test.YtfiadgdinhmgbaaGreatDoorEAM
import Derived.Test.YtfiadgdinhmgbaaGreatDoorEAJ
import Derived.Test.YtfiadgdinhmgbaaGreatDoorEAO
import Derived.Test.YtfiadgdinhmgbaaGreatDoorEAI
/-! The document's reading of an archive (chapter 9): where it answers a tree, it is openT's. No program in sight. -/
namespace Go.Tr
open Go.Proofs.YtfiadgdinhmgbaaGreatDoor Go.Agg
def rnL (g : S → T × S) : Nat → S → List K × S
 | 0, s => ([], s)
 | c + 1, s => if s = none then ([], none) else
   (((sText 24 s).1, (g (sText 24 s).2).1) :: (rnL g c (g (sText 24 s).2).2).1, (rnL g c (g (sText 24 s).2).2).2)
def rn : Nat → S → T × S
 | 0, s => (.mk ((sNum 4 s).1 : Int) [] [], none)
 | d + 1, s =>
  if (sNum 4 s).2 = none then (.mk ((sNum 4 s).1 : Int) [] [], none)
  else if (sNum 4 s).1 = 4 then
   (.mk 4 [] (rnL (rn d) (sNum 200 (sNum 4 s).2).1 (sNum 200 (sNum 4 s).2).2).1, (rnL (rn d) (sNum 200 (sNum 4 s).2).1 (sNum 200 (sNum 4 s).2).2).2)
  else (.mk ((sNum 4 s).1 : Int) (sText 2048 (sNum 4 s).2).1 [], (sText 2048 (sNum 4 s).2).2)
theorem rnL_put {g : S → T × S} : ∀ (l : List K) (b : Option (List UInt8)) (y : List UInt8), named b l = true → (∀ x ∈ l, ∀ y, g (some (packB x.2 ++ y)) = (x.2, some y)) → rnL g l.length (some (packL l ++ y)) = (l, some y)
 | [], _, y, _, _ => by simp [rnL, packL]
 | (n, t) :: l, b, y, hn, hg => by
  simp only [named, Bool.and_eq_true] at hn
  obtain ⟨⟨h1, _⟩, h3⟩ := hn
  have hl := name_le h1
  have ht : sText 24 (some (packL ((n, t) :: l) ++ y)) = (n, some (packB t ++ (packL l ++ y))) := by
   rw [packL, List.append_assoc, List.append_assoc]
   exact sText_enc hl (by omega) _
  have hg1 := hg (n, t) (by simp) (packL l ++ y)
  have ih := rnL_put l (some n) y h3 (fun x hx => hg x (by simp [hx]))
  simp only [List.length_cons, rnL, ht, hg1, ih]
  simp
theorem rn_put : ∀ (d : Nat) (t : T) (y : List UInt8), ok t = true → deep t ≤ d → rn d (some (packB t ++ y)) = (t, some y)
 | 0, t, y, _, h => by have := deep_pos t; omega
 | d + 1, .mk k b l, y, hok, hd => by
  have ha : alone (.mk k b l) = true := by simp only [ok, Bool.and_eq_true] at hok; exact hok.1
  have hk := kids_ok hok
  rw [show (T.mk k b l).kids = l from rfl] at hk
  unfold rn
  rcases alone_cases ha with ⟨rfl, rfl, h200, hnm⟩ | ⟨h4, h1, h3, h2048, rfl⟩
  ·have e1 : sNum 4 (some (packB (.mk 4 [] l) ++ y)) = (4, some (encN l.length ++ (packL l ++ y))) := by
    simp only [packB, if_true, List.append_assoc]
    exact sNum_enc (by omega) (by omega) _
   have e2 : sNum 200 (some (encN l.length ++ (packL l ++ y))) = (l.length, some (packL l ++ y)) := sNum_enc (by omega) h200 _
   simp only [deep] at hd
   have := rnL_put (g := rn d) l none y hnm (fun x hx y => rn_put d x.2 y (okL_mem hk hx) (by have := deepL_mem hx; omega))
   simp only [e1, e2, this]
   simp
  ·have e1 : sNum 4 (some (packB (.mk k b []) ++ y)) = (k.toNat, some (encT b ++ y)) := by
    simp only [packB, if_neg h4, List.append_assoc]
    exact sNum_enc (by omega) (by omega) _
   have e2 : sText 2048 (some (encT b ++ y)) = (b, some y) := sText_enc h2048 (by omega) _
   have hk4 : ¬ k.toNat = 4 := by omega
   have hkk : ((k.toNat : Nat) : Int) = k := by omega
   simp only [e1, e2, if_neg hk4, hkk]
   simp
theorem rn_open (b : List UInt8) : openT b = if (rn 8 (some b)).2 ≠ none ∧ right (rn 8 (some b)).1 = true ∧ packB (rn 8 (some b)).1 = b then some (rn 8 (some b)).1 else none := by
 split
 ·next h => exact (openT_iff b _).2 ⟨h.2.1, h.2.2⟩
 ·next h =>
  cases ho : openT b with
  | none => rfl
  | some t =>
   exfalso
   obtain ⟨h1, h2⟩ := (openT_iff b t).1 ho
   have hr := h1
   simp only [right, lookB, Bool.and_eq_true, decide_eq_true_eq] at hr
   have e := rn_put 8 t [] hr.1.1 (by omega)
   rw [List.append_nil, h2] at e
   apply h
   rw [e]
   exact ⟨by simp, h1, h2⟩
end Go.Tr
/-! spenceref01.Number. -/
namespace Go.Proofs.YtfiadgdinhmgbaaGreatDoor
open Go.RowKit Pl Go.Agg
set_option maxRecDepth 100000 in
set_option maxHeartbeats 1000000 in
theorem refNumber_any (n : Nat) (w : World) (hn : n < 4398046511104) :
  Calls Tryz.prog 7 #[.int .i64 (n : Int)] w fun e w' => ∃ v, e = .returned v ∧ Own EB w.heap.size w' v (encN n) ∧ Below w.heap.size w w' := by
 go_enter Tryz.func7, Tryz.ntmps7
 go_wp2_with fail
 go_loopw [0, 3] (fun x out wr => ∃ k : Nat, x = .int .i64 (k : Int) ∧ k < 4398046511104 ∧ ∃ bs, Own EB w.heap.size wr out bs ∧ bs ++ encN k = encN n ∧ Below w.heap.size w wr) (fun x _ _ => (intOf x).toNat)
 case atStart => exact ⟨n, rfl, hn, [], Own.nil _ _ _, rfl, Below.refl _ _⟩
 case round =>
  obtain ⟨w1, rfl⟩ : ∃ w1 : World, w1 = wr := ⟨_, rfl⟩
  obtain ⟨k, rfl, hk, bs, ho, heq, hw⟩ := hrel
  have hbs : bs.length ≤ 6 := by
   have h1 := congrArg List.length heq
   have h2 := encN_len' 6 n (by omega) (by omega)
   simp only [List.length_append] at h1
   omega
  have h63 : bs.length + 1 ≤ 1099511627776 / 8 := by omega
  have hsz := hw.size
  have HO := Lib.hid ho
  have HEQ := Lib.hid heq
  have HW := Lib.hid hw
  clear ho heq hw
  by_cases hlt : 128 ≤ k
  ·have hI : (128 : Int) ≤ (k : Int) := by omega
   obtain ⟨c, hc⟩ : ∃ c : UInt8, c.toNat = k % 128 + 128 := ⟨UInt8.ofNat (k % 128 + 128), by simp; omega⟩
   have hcc : (k : Int) % 128 + 128 = (c.toNat : Int) := by omega
   have HE : Hid (bs ++ [c] ++ encN (k / 128) = encN n) := Lib.hid (by
    have e : UInt8.ofNat (k % 128 + 128) = c := by rw [← hc]; simp
    rw [← HEQ.out, encN_ge hlt, e, List.append_assoc]; rfl)
   clear hlt hc
   go_wp2_with (first | (refine wpList_push (E := EB) (base := w.heap.size) rfl rfl 11 rfl _ rfl _ rfl (c) rfl (fun _ => rfl) (by simp) HO.out h63 (by decide) hsz ?_; intro u5 v5 w5 ho5 hp5; have HO5 := Lib.hid ho5; have HP5 := Lib.hid (HW.out.trans (hp5.below w.heap.size (Nat.le_refl _) hsz)); clear ho5 hp5))
   go_roundw
   case rel => exact ⟨k / 128, by go_num, by omega, _, HO5.out, HE.out, HP5.out⟩
   case measure => simp [intOf]; omega
  ·obtain ⟨c, rfl⟩ : ∃ c : UInt8, k = c.toNat := ⟨UInt8.ofNat k, by simp; omega⟩
   have hI : ¬ (128 : Int) ≤ (c.toNat : Int) := by omega
   have HE : Hid (bs ++ [c] = encN n) := Lib.hid (by rw [← HEQ.out, encN_lt (by omega), UInt8.ofNat_toNat])
   clear hlt
   go_wp2_with (first | (refine wpList_push (E := EB) (base := w.heap.size) rfl rfl 18 rfl _ rfl _ rfl (c) rfl (fun _ => rfl) (by simp) HO.out h63 (by decide) hsz ?_; intro u5 v5 w5 ho5 hp5; have HO5 := Lib.hid ho5; have HP5 := Lib.hid (HW.out.trans (hp5.below w.heap.size (Nat.le_refl _) hsz)); clear ho5 hp5))
   go_ret
   exact ⟨_, rfl, by rw [← HE.out]; exact HO5.out, HP5.out⟩
end Go.Proofs.YtfiadgdinhmgbaaGreatDoor
/-! spenceref01.Cursor: fail, End, Raw, Num, Text. -/
namespace Go.Proofs.YtfiadgdinhmgbaaGreatDoor
open Go.RowKit Pl Go.Agg
structure CrV (base g : Nat) (w : World) (v : Value) (r : List UInt8) (e : Nat) : Prop where
 blk : Blk w g 61 (cuC v e)
 rest : Rest base w v r
section
variable {base g : Nat} {w w' : World} {v : Value} {r : List UInt8} {e : Nat}
theorem CrV.load (h : CrV base g w v r e) : LoadsL Tryz.prog w 23 (some ⟨g, 0, none⟩) v :=
 h.blk.one (P := Tryz.prog) 0 rfl (by kernel_rfl : Tryz.prog.underlying 23 = some (.slice 5)) rfl
theorem CrV.err (h : CrV base g w v r e) : LoadsL Tryz.prog w 35 (some ⟨g, 1, none⟩) (.int .i64 (e : Int)) :=
 h.blk.one (P := Tryz.prog) 1 rfl Tryz.underlying35 rfl
theorem CrV.below (h : CrV base g w v r e) (hb : Below w.heap.size w w') : CrV base g w' v r e := ⟨h.blk.below hb, h.rest.below hb⟩
theorem CrV.put (h : CrV base g w v r e) (i : Nat) (hi : i < 2) (u : Value) (hu : u.cells = #[u]) (h1 : u.oneCell' = true) {ty : TypeId} (hs : (Tryz.prog.info? ty).map (·.size) = some 1) :
  ∃ w', (Instr.storeAt ty (.pointer (some ⟨g, i, none⟩)) u).run Tryz.prog w = .ok () w' ∧ Blk w' g 61 ((cuC v e).setIfInBounds i u) ∧ Only (· = g) w w' ∧ (∀ {B : Nat} {x : Value} {l : List UInt8}, Rest B w x l → Rest B w' x l) := by
 refine ⟨_, h.blk.run_put i (by simpa [cuC] using hi) u hu h1 hs, h.blk.set i u, ⟨rfl, rfl, rfl, by simp [World.setCell], fun k _ hk => Below.heap_setCell _ _ _ _ hk⟩, fun {B x l} hr => restKeepT hr fun k cur fr hk => ?_⟩
 rw [Below.heap_setCell _ _ _ _ (by
  show k ≠ g
  rintro rfl
  have hb := h.blk
  unfold Blk at hb
  rw [hk] at hb
  injection hb with hb
  injection hb with _ hb
  exact absurd hb (by decide))]
 exact hk
end
set_option maxRecDepth 100000 in
set_option maxHeartbeats 1000000 in
theorem rfail_any (base g : Nat) (v : Value) (r : List UInt8) (e c : Nat) (w : World) (hm : CrV base g w v r e) :
  Calls Tryz.prog 91 #[.pointer (some ⟨g, 0, none⟩), .int .i64 (c : Int)] w fun x w' => (∃ r, x = .returned r) ∧ CrV base g w' (.slice none 0 0) [] (if e = 0 then c else e) ∧ Only (· = g) w w' := by
 have HE := Lib.hid hm.err
 have HM := Lib.hid hm
 clear hm
 by_cases h0 : e = 0
 ·subst h0
  obtain ⟨w1, hrun1, hb1, ho1, hr1⟩ := HM.out.put (ty := 35) 1 (by omega) (.int .i64 (c : Int)) rfl rfl (by kernel_rfl)
  have hm1 : CrV base g w1 v r c := ⟨hb1, hr1 HM.out.rest⟩
  obtain ⟨w2, hrun2, hb2, ho2, _⟩ := hm1.put (ty := 23) 0 (by omega) (.slice none 0 0) rfl rfl (by kernel_rfl)
  have HO := Lib.hid (ho1.trans ho2 fun _ _ h => h)
  have HB := Lib.hid hb2
  clear hb1 ho1 hr1 hm1 hb2 ho2
  go_enter Tryz.func91, Tryz.ntmps91
  go_wp2_with (first | (with_reducible refine wpList_loadL HE.out rfl _ rfl rfl ?_) | (refine wpList_store rfl rfl 35 _ _ rfl (.pointer (some ⟨g, 1, none⟩)) _ rfl rfl hrun1 ?_) | (refine wpList_store rfl rfl 23 _ _ rfl (.pointer (some ⟨g, 0, none⟩)) _ rfl rfl hrun2 ?_))
  refine bodyPost_end (results_none rfl _ _ _) rfl ?_
  exact ⟨⟨_, rfl⟩, ⟨HB.out, .inl ⟨rfl, rfl⟩⟩, HO.out⟩
 ·obtain ⟨w2, hrun2, hb2, ho2, _⟩ := HM.out.put (ty := 23) 0 (by omega) (.slice none 0 0) rfl rfl (by kernel_rfl)
  have hq : ((e : Int) == 0) = false := by simp [h0]
  have HH := Lib.hid h0
  have HO := Lib.hid ho2
  have HB := Lib.hid hb2
  clear hb2 ho2 h0
  go_enter Tryz.func91, Tryz.ntmps91
  go_wp2_with (first | (with_reducible refine wpList_loadL HE.out rfl _ rfl rfl ?_) | (refine wpList_store rfl rfl 23 _ _ rfl (.pointer (some ⟨g, 0, none⟩)) _ rfl rfl hrun2 ?_))
  refine bodyPost_end (results_none rfl _ _ _) rfl ?_
  exact ⟨⟨_, rfl⟩, ⟨HB.out, .inl ⟨rfl, rfl⟩⟩, HO.out⟩
def CrBad (base g : Nat) (w : World) : Prop := ∃ e, e ≠ 0 ∧ CrV base g w (.slice none 0 0) [] e
def CrS (base g : Nat) (w : World) (s : Option (List UInt8)) : Prop := ∃ v r e, CrV base g w v r e ∧ (e ≠ 0 → v = .slice none 0 0 ∧ r = []) ∧ s = (if e = 0 then some r else none)
theorem CrS.good {base g : Nat} {w : World} {v : Value} {r : List UInt8} (h : CrV base g w v r 0) : CrS base g w (some r) := ⟨v, r, 0, h, fun h => absurd rfl h, rfl⟩
theorem CrS.bad {base g : Nat} {w : World} (h : CrBad base g w) : CrS base g w none := by
 obtain ⟨e, he, h⟩ := h
 exact ⟨_, _, e, h, fun _ => ⟨rfl, rfl⟩, by rw [if_neg he]⟩
theorem CrS.below {base g : Nat} {w w' : World} {s : Option (List UInt8)} (h : CrS base g w s) (hb : Below w.heap.size w w') : CrS base g w' s := by
 obtain ⟨v, r, e, h, h1, h2⟩ := h
 exact ⟨v, r, e, h.below hb, h1, h2⟩
theorem CrS.lt {base g : Nat} {w : World} {s : Option (List UInt8)} (h : CrS base g w s) : g < w.heap.size := by
 obtain ⟨v, r, e, h, _⟩ := h
 exact h.blk.lt
set_option maxRecDepth 100000 in
set_option maxHeartbeats 2000000 in
theorem rcraw_good (base g many : Nat) (v : Value) (r : List UInt8) (w : World) (hr : r.length ≤ 16777216) (hle : many ≤ r.length) (hm : CrV base g w v r 0) :
  Calls Tryz.prog 92 #[.pointer (some ⟨g, 0, none⟩), .int .i64 (many : Int)] w fun x w' => ∃ u v', x = .returned u ∧ Own EB w.heap.size w' u (r.take many) ∧ CrV base g w' v' (r.drop many) 0 ∧ Only (· = g) w w' := by
 have hlr := fun W => bytes_len hm.rest.slice W
 have HM := Lib.hid hm
 have hI : ¬ (r.length : Int) < (many : Int) := by omega
 have hI0 : ¬ (many : Int) < 0 := by omega
 obtain ⟨vx, hsv, hbx⟩ := rest_high hm.rest many hle
 have HBX := Lib.hid hbx
 have HLE := Lib.hid hle
 have h63 : ([] : List UInt8).length + (r.take many).length ≤ 1099511627776 / 8 := by simp; omega
 clear hm hbx hle
 go_enter Tryz.func92, Tryz.ntmps92
 go_wp2_with (first | (with_reducible refine wpList_loadL HM.out.load rfl _ rfl rfl ?_) | (with_reducible refine wpList_loadL HM.out.err rfl _ rfl rfl ?_) | (refine wpList_slice0 (base := w.heap.size) EB rfl rfl (Nat.le_refl _) ?_; intro v0 w1 ho1 hx1 hne1; have HO1 := Lib.hid ho1; have HX1 := Lib.hid hx1; have HM1 := Lib.hid (HM.out.below hx1); have HBX1 := Lib.hid (HBX.out.below hx1); have hsz1 := hx1.size; clear ho1 hx1 hne1) | (with_reducible refine wpList_loadL HM1.out.load rfl _ rfl rfl ?_) | (refine Agg.wpList_appendS (E := EB) (base := w.heap.size) rfl _ _ rfl vx rfl rfl (r.take many) HO1.out HBX1.out h63 (by decide) hsz1 ?_; intro v2 w2 ho2 hp2 hne2; have HO2 := Lib.hid ho2; have HX2 := Lib.hid (HX1.out.trans (hp2.below w.heap.size (Nat.le_refl _) hsz1)); have HM2 := Lib.hid (HM.out.below HX2.out); obtain ⟨vy, hsy, hry, hyc, hy1⟩ := rest_low HM2.out.rest many HLE.out; obtain ⟨w3, hrun, hb3, ho3, hr3⟩ := HM2.out.put (ty := 23) 0 (by omega) vy hyc hy1 (by kernel_rfl); have HCU := Lib.hid (show CrV base g w3 vy (r.drop many) 0 from ⟨hb3, hr3 hry⟩); have HON := Lib.hid ho3; clear ho2 hp2 hne2 hry hyc hy1 hb3 ho3 hr3) | (with_reducible refine wpList_loadL HM2.out.load rfl _ rfl rfl ?_) | (refine wpList_store rfl rfl 23 _ _ rfl (.pointer (some ⟨g, 0, none⟩)) _ rfl rfl hrun ?_))
 go_ret
 refine ⟨v2, rfl, ?_, ⟨vy, HCU.out⟩, (Only.of_below (S := (· = g)) HX2.out).trans HON.out fun _ _ h => h⟩
 have hown : Own EB w.heap.size w2 v2 (r.take many) := by simpa using HO2.out
 exact hown.keepT fun k cur fr hk => (HON.out.block k (Agg.heap_lt hk) (fun h => by
  obtain rfl : k = g := h
  have hb := HM2.out.blk
  unfold Blk at hb
  rw [hk] at hb
  injection hb with hb
  injection hb with _ hb
  exact absurd hb (by decide))).trans hk
end Go.Proofs.YtfiadgdinhmgbaaGreatDoor
/-! spenceref01.Cursor: Num, Text. -/
namespace Go.Proofs.YtfiadgdinhmgbaaGreatDoor
open Go.RowKit Pl Go.Agg
theorem getN_go (most : Nat) (b : List UInt8) : getN most b = if (numGo 0 0 b).1 = 0 ∨ (numGo 0 0 b).1 ≠ (encN (numGo 0 0 b).2).length ∨ 1099511627776 < (numGo 0 0 b).2 ∨ most < (numGo 0 0 b).2 then none else some ((numGo 0 0 b).2, b.drop (numGo 0 0 b).1) := by
 have h := numGo_dec b 0 0 (by omega)
 unfold getN
 by_cases h0 : (dec 6 b).1 = 0
 ·rw [if_pos (show (dec (6 - 0) b).1 = 0 from h0)] at h
  rw [if_pos (.inl h0), if_pos (.inl h)]
 ·rw [if_neg (show ¬ (dec (6 - 0) b).1 = 0 from h0)] at h
  have e : numGo 0 0 b = ((dec 6 b).1, (dec 6 b).2) := by rw [h]; simp
  rw [e]
def RNum (base g most : Nat) (r : List UInt8) (x : Ending) (w' : World) : Prop :=
 (∃ n y v', getN most r = some (n, y) ∧ x = .returned (.int .i64 (n : Int)) ∧ CrV base g w' v' y 0) ∨ (getN most r = none ∧ x = .returned (.int .i64 0) ∧ CrBad base g w')
set_option maxRecDepth 100000 in
set_option maxHeartbeats 8000000 in
theorem rcnum_good (base g most : Nat) (v : Value) (r : List UInt8) (w : World) (hr : r.length ≤ 16777216) (_hmo : most ≤ 1099511627776) (hm : CrV base g w v r 0) :
  Calls Tryz.prog 49 #[.pointer (some ⟨g, 0, none⟩), .int .i64 (most : Int)] w fun x w' => RNum base g most r x w' ∧ Only (· = g) w w' := by
 have hlr := fun W => bytes_len hm.rest.slice W
 have HM := Lib.hid hm
 clear hm
 go_enter Tryz.func49, Tryz.ntmps49
 go_wp2_with fail
 go_loopw [5, 6, 7] (fun nn u i wr => ∃ k N : Nat, k ≤ 6 ∧ k ≤ r.length ∧ i = .int .i64 (k : Int) ∧ nn = .int .i64 (N : Int) ∧ u = .int .i64 ((128 ^ k : Nat) : Int) ∧ numGo 0 0 r = numGo k N (r.drop k) ∧ N < 128 ^ k ∧ wr = w) (fun _ _ i _ => 6 - (intOf i).toNat)
 case atStart => exact ⟨0, 0, by omega, by omega, rfl, rfl, rfl, by simp, by simp, rfl⟩
 case round =>
  obtain ⟨k, N, hk, hkl, rfl, rfl, hu, hgo, hN, rfl⟩ := hrel
  have HGO := Lib.hid hgo
  clear hgo
  by_cases hlt : k < 6 ∧ k < r.length
  ·obtain ⟨h3, hlt⟩ := hlt
   have hk3 : k = 0 ∨ k = 1 ∨ k = 2 ∨ k = 3 ∨ k = 4 ∨ k = 5 := by omega
   obtain ⟨b, hbk⟩ : ∃ b, r[k]? = some b := ⟨_, List.getElem?_eq_getElem (by omega)⟩
   have hdrop : r.drop k = b :: r.drop (k + 1) := by
    obtain ⟨h1, rfl⟩ := List.getElem?_eq_some_iff.1 hbk
    exact List.drop_eq_getElem_cons h1
   have HGOB := Lib.hid (show numGo 0 0 r = numGo k N (b :: r.drop (k + 1)) by rw [HGO.out, hdrop])
   obtain ⟨x, hx⟩ : ∃ x, b.toNat % 128 = x := ⟨_, rfl⟩
   have hx128 : x < 128 := by omega
   have hxI : (b.toNat : Int) % 128 = (x : Int) := by omega
   obtain ⟨M, hM⟩ : ∃ M, N + x * 128 ^ k = M := ⟨_, rfl⟩
   have HSTEP := Lib.hid (show numGo k N (b :: r.drop (k + 1)) = if b.toNat < 128 then (k + 1, M) else numGo (k + 1) M (r.drop (k + 1)) by
    simp only [numGo]
    rw [if_neg (by omega)]
    split
    ·rename_i h
     rw [← hM, ← hx, Nat.mod_eq_of_lt h]
    ·rw [hx, hM])
   have HMM := Lib.hid hM
   have HN := Lib.hid hN
   clear hdrop hx hM hN HGO h3
   rcases hk3 with rfl | rfl | rfl | rfl | rfl | rfl
   ·obtain ⟨q, hadr0, hld⟩ := byte_at HM.out.rest.slice 0 b hbk
    have hadr : ∀ W, (Instr.indexAt 23 v (.int .i64 0)).run Tryz.prog W = .ok (.pointer (some q)) W := hadr0
    have HL := Lib.hid hld
    have hsum : (N : Int) + (x : Int) = (M : Int) := by have h := HMM.out; simp only [Nat.reducePow, Nat.mul_one] at h; omega
    have hMb : M < 128 := by have h1 := HMM.out; have h2 := HN.out; simp only [Nat.reducePow] at h1 h2; omega
    have hb256 : b.toNat < 256 := b.toNat_lt
    have hlI : (0 : Int) < (r.length : Int) := by omega
    have hu' := hu.trans (rfl : (Value.int .i64 ((128 ^ 0 : Nat) : Int)) = .int .i64 1)
    clear hadr0 hld hbk hu
    subst hu'
    by_cases hb1 : b.toNat < 128
    ·have hI : ¬ (128 : Int) ≤ (b.toNat : Int) := by omega
     have HGO2 := Lib.hid (show numGo 0 0 r = (1, M) by
      rw [HGOB.out, HSTEP.out, if_pos hb1])
     go_wp2_with (first | (with_reducible refine wpList_loadL HM.out.load rfl _ rfl rfl ?_) | (with_reducible refine wpList_loadL HM.out.err rfl _ rfl rfl ?_) | (with_reducible refine wpList_loadL HL.out rfl _ rfl rfl ?_))
     refine (refNumber_any M _ (by omega)).mono ?_
     rintro x w2 ⟨u2, rfl, hu2, hx2⟩
     have hlu := fun W => bytes_len hu2.slice W
     have HM2 := Lib.hid (HM.out.below hx2)
     have HX2 := Lib.hid hx2
     clear hu2 hx2 hI hb1 hadr
     obtain ⟨n2, hn2⟩ : ∃ n, (encN M).length = n := ⟨_, rfl⟩
     rw [hn2] at hlu
     have HN2 := Lib.hid hn2
     clear hn2
     by_cases hg : n2 = 1 ∧ M ≤ 1099511627776 ∧ M ≤ most
     ·obtain ⟨rfl, hg2, hg3⟩ := hg
      have hlu' : ∀ W, (Builtin.len_ #[23] 3 #[u2]).run Tryz.prog W = .ok (.int .i64 1) W := hlu
      clear hlu
      have hI2 : ¬ (1099511627776 : Int) < (M : Int) := by omega
      have hI3 : ¬ (most : Int) < (M : Int) := by omega
      have HRES := Lib.hid (show getN most r = some (M, r.drop 1) from by rw [getN_go, HGO2.out, if_neg (by rw [HN2.out]; rintro (h | h | h | h) <;> omega)])
      obtain ⟨vy, hsy0, hry, hyc, hy1⟩ := rest_low HM2.out.rest 1 (by omega)
      have hsy : ∀ W, (Instr.sliceAt 23 v (some (.int .i64 1)) none none).run Tryz.prog W = .ok vy W := hsy0
      obtain ⟨w3, hrun, hb3, ho3, hr3⟩ := HM2.out.put (ty := 23) 0 (by omega) vy hyc hy1 (by kernel_rfl)
      have HCU := Lib.hid (show CrV base g w3 vy (r.drop 1) 0 from ⟨hb3, hr3 hry⟩)
      have HON := Lib.hid ((Only.of_below (S := (· = g)) HX2.out).trans ho3 fun _ _ h => h)
      clear hsy0 hry hyc hy1 hb3 ho3 hr3 hg2 hg3
      go_wp2_with (first | (with_reducible refine wpList_loadL HM2.out.load rfl _ rfl rfl ?_) | (refine wpList_store rfl rfl 23 _ _ rfl (.pointer (some ⟨g, 0, none⟩)) _ rfl rfl hrun ?_))
      all_goals first
       | (exfalso; omega)
       | (go_ret
          exact ⟨.inl ⟨M, r.drop 1, vy, HRES.out, rfl, HCU.out⟩, HON.out⟩)
     ·have HRES := Lib.hid (show getN most r = none from by rw [getN_go, HGO2.out, if_pos (by rw [HN2.out]; by_cases h1 : n2 = 1; by_cases h2 : M ≤ 1099511627776; exact .inr (.inr (.inr (by omega))); exact .inr (.inr (.inl (by omega))); exact .inr (.inl (fun h => h1 h.symm)))])
      by_cases hg1 : n2 = 1
      ·subst hg1
       have hlu' : ∀ W, (Builtin.len_ #[23] 3 #[u2]).run Tryz.prog W = .ok (.int .i64 1) W := hlu
       clear hlu
       by_cases hg2 : M ≤ 1099511627776
       ·have hI2 : ¬ (1099511627776 : Int) < (M : Int) := by omega
        have hI3 : (most : Int) < (M : Int) := by omega
        clear hg
        go_wp2_with fail
        all_goals first
         | (exfalso; omega)
         | (refine (rfail_any base g v r 0 4 _ HM2.out).mono ?_
            rintro x w9 ⟨⟨rr, rfl⟩, hcu, hon⟩
            have HCU := Lib.hid hcu
            have HON := Lib.hid ((Only.of_below (S := (· = g)) HX2.out).trans hon fun _ _ h => h)
            clear hcu hon
            go_wp2_with fail
            go_ret
            exact ⟨.inr ⟨HRES.out, rfl, 4, by omega, HCU.out⟩, HON.out⟩)
       ·have hI2 : (1099511627776 : Int) < (M : Int) := by omega
        clear hg
        go_wp2_with fail
        all_goals first
         | (exfalso; omega)
         | (refine (rfail_any base g v r 0 4 _ HM2.out).mono ?_
            rintro x w9 ⟨⟨rr, rfl⟩, hcu, hon⟩
            have HCU := Lib.hid hcu
            have HON := Lib.hid ((Only.of_below (S := (· = g)) HX2.out).trans hon fun _ _ h => h)
            clear hcu hon
            go_wp2_with fail
            go_ret
            exact ⟨.inr ⟨HRES.out, rfl, 4, by omega, HCU.out⟩, HON.out⟩)
      ·have hq : ((n2 : Int) != 1) = true := by simp [bne_iff_ne]; omega
       clear hg
       go_wp2_with fail
       all_goals first
        | (exfalso; omega)
        | (refine (rfail_any base g v r 0 4 _ HM2.out).mono ?_
           rintro x w9 ⟨⟨rr, rfl⟩, hcu, hon⟩
           have HCU := Lib.hid hcu
           have HON := Lib.hid ((Only.of_below (S := (· = g)) HX2.out).trans hon fun _ _ h => h)
           clear hcu hon
           go_wp2_with fail
           go_ret
           exact ⟨.inr ⟨HRES.out, rfl, 4, by omega, HCU.out⟩, HON.out⟩)
    ·have hI : (128 : Int) ≤ (b.toNat : Int) := by omega
     have HGO2 := Lib.hid (show numGo 0 0 r = numGo 1 M (r.drop 1) by
      rw [HGOB.out, HSTEP.out, if_neg hb1])
     have HMN2 := Lib.hid (show M < 128 ^ 1 by have h1 := HMM.out; have h2 := HN.out; simp only [Nat.reducePow] at h1 h2 ⊢; omega)
     clear hb1
     go_wp2_with (first | (with_reducible refine wpList_loadL HM.out.load rfl _ rfl rfl ?_) | (with_reducible refine wpList_loadL HM.out.err rfl _ rfl rfl ?_) | (with_reducible refine wpList_loadL HL.out rfl _ rfl rfl ?_))
     go_roundw
     case rel => exact ⟨1, M, by omega, by omega, by go_num, by go_num, rfl, HGO2.out, HMN2.out, by first | rfl | trivial⟩
     case measure => simp [intOf]
   ·obtain ⟨q, hadr0, hld⟩ := byte_at HM.out.rest.slice 1 b hbk
    have hadr : ∀ W, (Instr.indexAt 23 v (.int .i64 1)).run Tryz.prog W = .ok (.pointer (some q)) W := hadr0
    have HL := Lib.hid hld
    have hsum : (N : Int) + (x : Int) * 128 = (M : Int) := by have h := HMM.out; simp only [Nat.reducePow] at h; omega
    have hMb : M < 16384 := by have h1 := HMM.out; have h2 := HN.out; simp only [Nat.reducePow] at h1 h2; omega
    have hb256 : b.toNat < 256 := b.toNat_lt
    have hlI : (1 : Int) < (r.length : Int) := by omega
    have hu' := hu.trans (rfl : (Value.int .i64 ((128 ^ 1 : Nat) : Int)) = .int .i64 128)
    clear hadr0 hld hbk hu
    subst hu'
    by_cases hb1 : b.toNat < 128
    ·have hI : ¬ (128 : Int) ≤ (b.toNat : Int) := by omega
     have HGO2 := Lib.hid (show numGo 0 0 r = (2, M) by
      rw [HGOB.out, HSTEP.out, if_pos hb1])
     go_wp2_with (first | (with_reducible refine wpList_loadL HM.out.load rfl _ rfl rfl ?_) | (with_reducible refine wpList_loadL HM.out.err rfl _ rfl rfl ?_) | (with_reducible refine wpList_loadL HL.out rfl _ rfl rfl ?_))
     refine (refNumber_any M _ (by omega)).mono ?_
     rintro x w2 ⟨u2, rfl, hu2, hx2⟩
     have hlu := fun W => bytes_len hu2.slice W
     have HM2 := Lib.hid (HM.out.below hx2)
     have HX2 := Lib.hid hx2
     clear hu2 hx2 hI hb1 hadr
     obtain ⟨n2, hn2⟩ : ∃ n, (encN M).length = n := ⟨_, rfl⟩
     rw [hn2] at hlu
     have HN2 := Lib.hid hn2
     clear hn2
     by_cases hg : n2 = 2 ∧ M ≤ 1099511627776 ∧ M ≤ most
     ·obtain ⟨rfl, hg2, hg3⟩ := hg
      have hlu' : ∀ W, (Builtin.len_ #[23] 3 #[u2]).run Tryz.prog W = .ok (.int .i64 2) W := hlu
      clear hlu
      have hI2 : ¬ (1099511627776 : Int) < (M : Int) := by omega
      have hI3 : ¬ (most : Int) < (M : Int) := by omega
      have HRES := Lib.hid (show getN most r = some (M, r.drop 2) from by rw [getN_go, HGO2.out, if_neg (by rw [HN2.out]; rintro (h | h | h | h) <;> omega)])
      obtain ⟨vy, hsy0, hry, hyc, hy1⟩ := rest_low HM2.out.rest 2 (by omega)
      have hsy : ∀ W, (Instr.sliceAt 23 v (some (.int .i64 2)) none none).run Tryz.prog W = .ok vy W := hsy0
      obtain ⟨w3, hrun, hb3, ho3, hr3⟩ := HM2.out.put (ty := 23) 0 (by omega) vy hyc hy1 (by kernel_rfl)
      have HCU := Lib.hid (show CrV base g w3 vy (r.drop 2) 0 from ⟨hb3, hr3 hry⟩)
      have HON := Lib.hid ((Only.of_below (S := (· = g)) HX2.out).trans ho3 fun _ _ h => h)
      clear hsy0 hry hyc hy1 hb3 ho3 hr3 hg2 hg3
      go_wp2_with (first | (with_reducible refine wpList_loadL HM2.out.load rfl _ rfl rfl ?_) | (refine wpList_store rfl rfl 23 _ _ rfl (.pointer (some ⟨g, 0, none⟩)) _ rfl rfl hrun ?_))
      all_goals first
       | (exfalso; omega)
       | (go_ret
          exact ⟨.inl ⟨M, r.drop 2, vy, HRES.out, rfl, HCU.out⟩, HON.out⟩)
     ·have HRES := Lib.hid (show getN most r = none from by rw [getN_go, HGO2.out, if_pos (by rw [HN2.out]; by_cases h1 : n2 = 2; by_cases h2 : M ≤ 1099511627776; exact .inr (.inr (.inr (by omega))); exact .inr (.inr (.inl (by omega))); exact .inr (.inl (fun h => h1 h.symm)))])
      by_cases hg1 : n2 = 2
      ·subst hg1
       have hlu' : ∀ W, (Builtin.len_ #[23] 3 #[u2]).run Tryz.prog W = .ok (.int .i64 2) W := hlu
       clear hlu
       by_cases hg2 : M ≤ 1099511627776
       ·have hI2 : ¬ (1099511627776 : Int) < (M : Int) := by omega
        have hI3 : (most : Int) < (M : Int) := by omega
        clear hg
        go_wp2_with fail
        all_goals first
         | (exfalso; omega)
         | (refine (rfail_any base g v r 0 4 _ HM2.out).mono ?_
            rintro x w9 ⟨⟨rr, rfl⟩, hcu, hon⟩
            have HCU := Lib.hid hcu
            have HON := Lib.hid ((Only.of_below (S := (· = g)) HX2.out).trans hon fun _ _ h => h)
            clear hcu hon
            go_wp2_with fail
            go_ret
            exact ⟨.inr ⟨HRES.out, rfl, 4, by omega, HCU.out⟩, HON.out⟩)
       ·have hI2 : (1099511627776 : Int) < (M : Int) := by omega
        clear hg
        go_wp2_with fail
        all_goals first
         | (exfalso; omega)
         | (refine (rfail_any base g v r 0 4 _ HM2.out).mono ?_
            rintro x w9 ⟨⟨rr, rfl⟩, hcu, hon⟩
            have HCU := Lib.hid hcu
            have HON := Lib.hid ((Only.of_below (S := (· = g)) HX2.out).trans hon fun _ _ h => h)
            clear hcu hon
            go_wp2_with fail
            go_ret
            exact ⟨.inr ⟨HRES.out, rfl, 4, by omega, HCU.out⟩, HON.out⟩)
      ·have hq : ((n2 : Int) != 2) = true := by simp [bne_iff_ne]; omega
       clear hg
       go_wp2_with fail
       all_goals first
        | (exfalso; omega)
        | (refine (rfail_any base g v r 0 4 _ HM2.out).mono ?_
           rintro x w9 ⟨⟨rr, rfl⟩, hcu, hon⟩
           have HCU := Lib.hid hcu
           have HON := Lib.hid ((Only.of_below (S := (· = g)) HX2.out).trans hon fun _ _ h => h)
           clear hcu hon
           go_wp2_with fail
           go_ret
           exact ⟨.inr ⟨HRES.out, rfl, 4, by omega, HCU.out⟩, HON.out⟩)
    ·have hI : (128 : Int) ≤ (b.toNat : Int) := by omega
     have HGO2 := Lib.hid (show numGo 0 0 r = numGo 2 M (r.drop 2) by
      rw [HGOB.out, HSTEP.out, if_neg hb1])
     have HMN2 := Lib.hid (show M < 128 ^ 2 by have h1 := HMM.out; have h2 := HN.out; simp only [Nat.reducePow] at h1 h2 ⊢; omega)
     clear hb1
     go_wp2_with (first | (with_reducible refine wpList_loadL HM.out.load rfl _ rfl rfl ?_) | (with_reducible refine wpList_loadL HM.out.err rfl _ rfl rfl ?_) | (with_reducible refine wpList_loadL HL.out rfl _ rfl rfl ?_))
     go_roundw
     case rel => exact ⟨2, M, by omega, by omega, by go_num, by go_num, rfl, HGO2.out, HMN2.out, by first | rfl | trivial⟩
     case measure => simp [intOf]
   ·obtain ⟨q, hadr0, hld⟩ := byte_at HM.out.rest.slice 2 b hbk
    have hadr : ∀ W, (Instr.indexAt 23 v (.int .i64 2)).run Tryz.prog W = .ok (.pointer (some q)) W := hadr0
    have HL := Lib.hid hld
    have hsum : (N : Int) + (x : Int) * 16384 = (M : Int) := by have h := HMM.out; simp only [Nat.reducePow] at h; omega
    have hMb : M < 2097152 := by have h1 := HMM.out; have h2 := HN.out; simp only [Nat.reducePow] at h1 h2; omega
    have hb256 : b.toNat < 256 := b.toNat_lt
    have hlI : (2 : Int) < (r.length : Int) := by omega
    have hu' := hu.trans (rfl : (Value.int .i64 ((128 ^ 2 : Nat) : Int)) = .int .i64 16384)
    clear hadr0 hld hbk hu
    subst hu'
    by_cases hb1 : b.toNat < 128
    ·have hI : ¬ (128 : Int) ≤ (b.toNat : Int) := by omega
     have HGO2 := Lib.hid (show numGo 0 0 r = (3, M) by
      rw [HGOB.out, HSTEP.out, if_pos hb1])
     go_wp2_with (first | (with_reducible refine wpList_loadL HM.out.load rfl _ rfl rfl ?_) | (with_reducible refine wpList_loadL HM.out.err rfl _ rfl rfl ?_) | (with_reducible refine wpList_loadL HL.out rfl _ rfl rfl ?_))
     refine (refNumber_any M _ (by omega)).mono ?_
     rintro x w2 ⟨u2, rfl, hu2, hx2⟩
     have hlu := fun W => bytes_len hu2.slice W
     have HM2 := Lib.hid (HM.out.below hx2)
     have HX2 := Lib.hid hx2
     clear hu2 hx2 hI hb1 hadr
     obtain ⟨n2, hn2⟩ : ∃ n, (encN M).length = n := ⟨_, rfl⟩
     rw [hn2] at hlu
     have HN2 := Lib.hid hn2
     clear hn2
     by_cases hg : n2 = 3 ∧ M ≤ 1099511627776 ∧ M ≤ most
     ·obtain ⟨rfl, hg2, hg3⟩ := hg
      have hlu' : ∀ W, (Builtin.len_ #[23] 3 #[u2]).run Tryz.prog W = .ok (.int .i64 3) W := hlu
      clear hlu
      have hI2 : ¬ (1099511627776 : Int) < (M : Int) := by omega
      have hI3 : ¬ (most : Int) < (M : Int) := by omega
      have HRES := Lib.hid (show getN most r = some (M, r.drop 3) from by rw [getN_go, HGO2.out, if_neg (by rw [HN2.out]; rintro (h | h | h | h) <;> omega)])
      obtain ⟨vy, hsy0, hry, hyc, hy1⟩ := rest_low HM2.out.rest 3 (by omega)
      have hsy : ∀ W, (Instr.sliceAt 23 v (some (.int .i64 3)) none none).run Tryz.prog W = .ok vy W := hsy0
      obtain ⟨w3, hrun, hb3, ho3, hr3⟩ := HM2.out.put (ty := 23) 0 (by omega) vy hyc hy1 (by kernel_rfl)
      have HCU := Lib.hid (show CrV base g w3 vy (r.drop 3) 0 from ⟨hb3, hr3 hry⟩)
      have HON := Lib.hid ((Only.of_below (S := (· = g)) HX2.out).trans ho3 fun _ _ h => h)
      clear hsy0 hry hyc hy1 hb3 ho3 hr3 hg2 hg3
      go_wp2_with (first | (with_reducible refine wpList_loadL HM2.out.load rfl _ rfl rfl ?_) | (refine wpList_store rfl rfl 23 _ _ rfl (.pointer (some ⟨g, 0, none⟩)) _ rfl rfl hrun ?_))
      all_goals first
       | (exfalso; omega)
       | (go_ret
          exact ⟨.inl ⟨M, r.drop 3, vy, HRES.out, rfl, HCU.out⟩, HON.out⟩)
     ·have HRES := Lib.hid (show getN most r = none from by rw [getN_go, HGO2.out, if_pos (by rw [HN2.out]; by_cases h1 : n2 = 3; by_cases h2 : M ≤ 1099511627776; exact .inr (.inr (.inr (by omega))); exact .inr (.inr (.inl (by omega))); exact .inr (.inl (fun h => h1 h.symm)))])
      by_cases hg1 : n2 = 3
      ·subst hg1
       have hlu' : ∀ W, (Builtin.len_ #[23] 3 #[u2]).run Tryz.prog W = .ok (.int .i64 3) W := hlu
       clear hlu
       by_cases hg2 : M ≤ 1099511627776
       ·have hI2 : ¬ (1099511627776 : Int) < (M : Int) := by omega
        have hI3 : (most : Int) < (M : Int) := by omega
        clear hg
        go_wp2_with fail
        all_goals first
         | (exfalso; omega)
         | (refine (rfail_any base g v r 0 4 _ HM2.out).mono ?_
            rintro x w9 ⟨⟨rr, rfl⟩, hcu, hon⟩
            have HCU := Lib.hid hcu
            have HON := Lib.hid ((Only.of_below (S := (· = g)) HX2.out).trans hon fun _ _ h => h)
            clear hcu hon
            go_wp2_with fail
            go_ret
            exact ⟨.inr ⟨HRES.out, rfl, 4, by omega, HCU.out⟩, HON.out⟩)
       ·have hI2 : (1099511627776 : Int) < (M : Int) := by omega
        clear hg
        go_wp2_with fail
        all_goals first
         | (exfalso; omega)
         | (refine (rfail_any base g v r 0 4 _ HM2.out).mono ?_
            rintro x w9 ⟨⟨rr, rfl⟩, hcu, hon⟩
            have HCU := Lib.hid hcu
            have HON := Lib.hid ((Only.of_below (S := (· = g)) HX2.out).trans hon fun _ _ h => h)
            clear hcu hon
            go_wp2_with fail
            go_ret
            exact ⟨.inr ⟨HRES.out, rfl, 4, by omega, HCU.out⟩, HON.out⟩)
      ·have hq : ((n2 : Int) != 3) = true := by simp [bne_iff_ne]; omega
       clear hg
       go_wp2_with fail
       all_goals first
        | (exfalso; omega)
        | (refine (rfail_any base g v r 0 4 _ HM2.out).mono ?_
           rintro x w9 ⟨⟨rr, rfl⟩, hcu, hon⟩
           have HCU := Lib.hid hcu
           have HON := Lib.hid ((Only.of_below (S := (· = g)) HX2.out).trans hon fun _ _ h => h)
           clear hcu hon
           go_wp2_with fail
           go_ret
           exact ⟨.inr ⟨HRES.out, rfl, 4, by omega, HCU.out⟩, HON.out⟩)
    ·have hI : (128 : Int) ≤ (b.toNat : Int) := by omega
     have HGO2 := Lib.hid (show numGo 0 0 r = numGo 3 M (r.drop 3) by
      rw [HGOB.out, HSTEP.out, if_neg hb1])
     have HMN2 := Lib.hid (show M < 128 ^ 3 by have h1 := HMM.out; have h2 := HN.out; simp only [Nat.reducePow] at h1 h2 ⊢; omega)
     clear hb1
     go_wp2_with (first | (with_reducible refine wpList_loadL HM.out.load rfl _ rfl rfl ?_) | (with_reducible refine wpList_loadL HM.out.err rfl _ rfl rfl ?_) | (with_reducible refine wpList_loadL HL.out rfl _ rfl rfl ?_))
     go_roundw
     case rel => exact ⟨3, M, by omega, by omega, by go_num, by go_num, rfl, HGO2.out, HMN2.out, by first | rfl | trivial⟩
     case measure => simp [intOf]
   ·obtain ⟨q, hadr0, hld⟩ := byte_at HM.out.rest.slice 3 b hbk
    have hadr : ∀ W, (Instr.indexAt 23 v (.int .i64 3)).run Tryz.prog W = .ok (.pointer (some q)) W := hadr0
    have HL := Lib.hid hld
    have hsum : (N : Int) + (x : Int) * 2097152 = (M : Int) := by have h := HMM.out; simp only [Nat.reducePow] at h; omega
    have hMb : M < 268435456 := by have h1 := HMM.out; have h2 := HN.out; simp only [Nat.reducePow] at h1 h2; omega
    have hb256 : b.toNat < 256 := b.toNat_lt
    have hlI : (3 : Int) < (r.length : Int) := by omega
    have hu' := hu.trans (rfl : (Value.int .i64 ((128 ^ 3 : Nat) : Int)) = .int .i64 2097152)
    clear hadr0 hld hbk hu
    subst hu'
    by_cases hb1 : b.toNat < 128
    ·have hI : ¬ (128 : Int) ≤ (b.toNat : Int) := by omega
     have HGO2 := Lib.hid (show numGo 0 0 r = (4, M) by
      rw [HGOB.out, HSTEP.out, if_pos hb1])
     go_wp2_with (first | (with_reducible refine wpList_loadL HM.out.load rfl _ rfl rfl ?_) | (with_reducible refine wpList_loadL HM.out.err rfl _ rfl rfl ?_) | (with_reducible refine wpList_loadL HL.out rfl _ rfl rfl ?_))
     refine (refNumber_any M _ (by omega)).mono ?_
     rintro x w2 ⟨u2, rfl, hu2, hx2⟩
     have hlu := fun W => bytes_len hu2.slice W
     have HM2 := Lib.hid (HM.out.below hx2)
     have HX2 := Lib.hid hx2
     clear hu2 hx2 hI hb1 hadr
     obtain ⟨n2, hn2⟩ : ∃ n, (encN M).length = n := ⟨_, rfl⟩
     rw [hn2] at hlu
     have HN2 := Lib.hid hn2
     clear hn2
     by_cases hg : n2 = 4 ∧ M ≤ 1099511627776 ∧ M ≤ most
     ·obtain ⟨rfl, hg2, hg3⟩ := hg
      have hlu' : ∀ W, (Builtin.len_ #[23] 3 #[u2]).run Tryz.prog W = .ok (.int .i64 4) W := hlu
      clear hlu
      have hI2 : ¬ (1099511627776 : Int) < (M : Int) := by omega
      have hI3 : ¬ (most : Int) < (M : Int) := by omega
      have HRES := Lib.hid (show getN most r = some (M, r.drop 4) from by rw [getN_go, HGO2.out, if_neg (by rw [HN2.out]; rintro (h | h | h | h) <;> omega)])
      obtain ⟨vy, hsy0, hry, hyc, hy1⟩ := rest_low HM2.out.rest 4 (by omega)
      have hsy : ∀ W, (Instr.sliceAt 23 v (some (.int .i64 4)) none none).run Tryz.prog W = .ok vy W := hsy0
      obtain ⟨w3, hrun, hb3, ho3, hr3⟩ := HM2.out.put (ty := 23) 0 (by omega) vy hyc hy1 (by kernel_rfl)
      have HCU := Lib.hid (show CrV base g w3 vy (r.drop 4) 0 from ⟨hb3, hr3 hry⟩)
      have HON := Lib.hid ((Only.of_below (S := (· = g)) HX2.out).trans ho3 fun _ _ h => h)
      clear hsy0 hry hyc hy1 hb3 ho3 hr3 hg2 hg3
      go_wp2_with (first | (with_reducible refine wpList_loadL HM2.out.load rfl _ rfl rfl ?_) | (refine wpList_store rfl rfl 23 _ _ rfl (.pointer (some ⟨g, 0, none⟩)) _ rfl rfl hrun ?_))
      all_goals first
       | (exfalso; omega)
       | (go_ret
          exact ⟨.inl ⟨M, r.drop 4, vy, HRES.out, rfl, HCU.out⟩, HON.out⟩)
     ·have HRES := Lib.hid (show getN most r = none from by rw [getN_go, HGO2.out, if_pos (by rw [HN2.out]; by_cases h1 : n2 = 4; by_cases h2 : M ≤ 1099511627776; exact .inr (.inr (.inr (by omega))); exact .inr (.inr (.inl (by omega))); exact .inr (.inl (fun h => h1 h.symm)))])
      by_cases hg1 : n2 = 4
      ·subst hg1
       have hlu' : ∀ W, (Builtin.len_ #[23] 3 #[u2]).run Tryz.prog W = .ok (.int .i64 4) W := hlu
       clear hlu
       by_cases hg2 : M ≤ 1099511627776
       ·have hI2 : ¬ (1099511627776 : Int) < (M : Int) := by omega
        have hI3 : (most : Int) < (M : Int) := by omega
        clear hg
        go_wp2_with fail
        all_goals first
         | (exfalso; omega)
         | (refine (rfail_any base g v r 0 4 _ HM2.out).mono ?_
            rintro x w9 ⟨⟨rr, rfl⟩, hcu, hon⟩
            have HCU := Lib.hid hcu
            have HON := Lib.hid ((Only.of_below (S := (· = g)) HX2.out).trans hon fun _ _ h => h)
            clear hcu hon
            go_wp2_with fail
            go_ret
            exact ⟨.inr ⟨HRES.out, rfl, 4, by omega, HCU.out⟩, HON.out⟩)
       ·have hI2 : (1099511627776 : Int) < (M : Int) := by omega
        clear hg
        go_wp2_with fail
        all_goals first
         | (exfalso; omega)
         | (refine (rfail_any base g v r 0 4 _ HM2.out).mono ?_
            rintro x w9 ⟨⟨rr, rfl⟩, hcu, hon⟩
            have HCU := Lib.hid hcu
            have HON := Lib.hid ((Only.of_below (S := (· = g)) HX2.out).trans hon fun _ _ h => h)
            clear hcu hon
            go_wp2_with fail
            go_ret
            exact ⟨.inr ⟨HRES.out, rfl, 4, by omega, HCU.out⟩, HON.out⟩)
      ·have hq : ((n2 : Int) != 4) = true := by simp [bne_iff_ne]; omega
       clear hg
       go_wp2_with fail
       all_goals first
        | (exfalso; omega)
        | (refine (rfail_any base g v r 0 4 _ HM2.out).mono ?_
           rintro x w9 ⟨⟨rr, rfl⟩, hcu, hon⟩
           have HCU := Lib.hid hcu
           have HON := Lib.hid ((Only.of_below (S := (· = g)) HX2.out).trans hon fun _ _ h => h)
           clear hcu hon
           go_wp2_with fail
           go_ret
           exact ⟨.inr ⟨HRES.out, rfl, 4, by omega, HCU.out⟩, HON.out⟩)
    ·have hI : (128 : Int) ≤ (b.toNat : Int) := by omega
     have HGO2 := Lib.hid (show numGo 0 0 r = numGo 4 M (r.drop 4) by
      rw [HGOB.out, HSTEP.out, if_neg hb1])
     have HMN2 := Lib.hid (show M < 128 ^ 4 by have h1 := HMM.out; have h2 := HN.out; simp only [Nat.reducePow] at h1 h2 ⊢; omega)
     clear hb1
     go_wp2_with (first | (with_reducible refine wpList_loadL HM.out.load rfl _ rfl rfl ?_) | (with_reducible refine wpList_loadL HM.out.err rfl _ rfl rfl ?_) | (with_reducible refine wpList_loadL HL.out rfl _ rfl rfl ?_))
     go_roundw
     case rel => exact ⟨4, M, by omega, by omega, by go_num, by go_num, rfl, HGO2.out, HMN2.out, by first | rfl | trivial⟩
     case measure => simp [intOf]
   ·obtain ⟨q, hadr0, hld⟩ := byte_at HM.out.rest.slice 4 b hbk
    have hadr : ∀ W, (Instr.indexAt 23 v (.int .i64 4)).run Tryz.prog W = .ok (.pointer (some q)) W := hadr0
    have HL := Lib.hid hld
    have hsum : (N : Int) + (x : Int) * 268435456 = (M : Int) := by have h := HMM.out; simp only [Nat.reducePow] at h; omega
    have hMb : M < 34359738368 := by have h1 := HMM.out; have h2 := HN.out; simp only [Nat.reducePow] at h1 h2; omega
    have hb256 : b.toNat < 256 := b.toNat_lt
    have hlI : (4 : Int) < (r.length : Int) := by omega
    have hu' := hu.trans (rfl : (Value.int .i64 ((128 ^ 4 : Nat) : Int)) = .int .i64 268435456)
    clear hadr0 hld hbk hu
    subst hu'
    by_cases hb1 : b.toNat < 128
    ·have hI : ¬ (128 : Int) ≤ (b.toNat : Int) := by omega
     have HGO2 := Lib.hid (show numGo 0 0 r = (5, M) by
      rw [HGOB.out, HSTEP.out, if_pos hb1])
     go_wp2_with (first | (with_reducible refine wpList_loadL HM.out.load rfl _ rfl rfl ?_) | (with_reducible refine wpList_loadL HM.out.err rfl _ rfl rfl ?_) | (with_reducible refine wpList_loadL HL.out rfl _ rfl rfl ?_))
     refine (refNumber_any M _ (by omega)).mono ?_
     rintro x w2 ⟨u2, rfl, hu2, hx2⟩
     have hlu := fun W => bytes_len hu2.slice W
     have HM2 := Lib.hid (HM.out.below hx2)
     have HX2 := Lib.hid hx2
     clear hu2 hx2 hI hb1 hadr
     obtain ⟨n2, hn2⟩ : ∃ n, (encN M).length = n := ⟨_, rfl⟩
     rw [hn2] at hlu
     have HN2 := Lib.hid hn2
     clear hn2
     by_cases hg : n2 = 5 ∧ M ≤ 1099511627776 ∧ M ≤ most
     ·obtain ⟨rfl, hg2, hg3⟩ := hg
      have hlu' : ∀ W, (Builtin.len_ #[23] 3 #[u2]).run Tryz.prog W = .ok (.int .i64 5) W := hlu
      clear hlu
      have hI2 : ¬ (1099511627776 : Int) < (M : Int) := by omega
      have hI3 : ¬ (most : Int) < (M : Int) := by omega
      have HRES := Lib.hid (show getN most r = some (M, r.drop 5) from by rw [getN_go, HGO2.out, if_neg (by rw [HN2.out]; rintro (h | h | h | h) <;> omega)])
      obtain ⟨vy, hsy0, hry, hyc, hy1⟩ := rest_low HM2.out.rest 5 (by omega)
      have hsy : ∀ W, (Instr.sliceAt 23 v (some (.int .i64 5)) none none).run Tryz.prog W = .ok vy W := hsy0
      obtain ⟨w3, hrun, hb3, ho3, hr3⟩ := HM2.out.put (ty := 23) 0 (by omega) vy hyc hy1 (by kernel_rfl)
      have HCU := Lib.hid (show CrV base g w3 vy (r.drop 5) 0 from ⟨hb3, hr3 hry⟩)
      have HON := Lib.hid ((Only.of_below (S := (· = g)) HX2.out).trans ho3 fun _ _ h => h)
      clear hsy0 hry hyc hy1 hb3 ho3 hr3 hg2 hg3
      go_wp2_with (first | (with_reducible refine wpList_loadL HM2.out.load rfl _ rfl rfl ?_) | (refine wpList_store rfl rfl 23 _ _ rfl (.pointer (some ⟨g, 0, none⟩)) _ rfl rfl hrun ?_))
      all_goals first
       | (exfalso; omega)
       | (go_ret
          exact ⟨.inl ⟨M, r.drop 5, vy, HRES.out, rfl, HCU.out⟩, HON.out⟩)
     ·have HRES := Lib.hid (show getN most r = none from by rw [getN_go, HGO2.out, if_pos (by rw [HN2.out]; by_cases h1 : n2 = 5; by_cases h2 : M ≤ 1099511627776; exact .inr (.inr (.inr (by omega))); exact .inr (.inr (.inl (by omega))); exact .inr (.inl (fun h => h1 h.symm)))])
      by_cases hg1 : n2 = 5
      ·subst hg1
       have hlu' : ∀ W, (Builtin.len_ #[23] 3 #[u2]).run Tryz.prog W = .ok (.int .i64 5) W := hlu
       clear hlu
       by_cases hg2 : M ≤ 1099511627776
       ·have hI2 : ¬ (1099511627776 : Int) < (M : Int) := by omega
        have hI3 : (most : Int) < (M : Int) := by omega
        clear hg
        go_wp2_with fail
        all_goals first
         | (exfalso; omega)
         | (refine (rfail_any base g v r 0 4 _ HM2.out).mono ?_
            rintro x w9 ⟨⟨rr, rfl⟩, hcu, hon⟩
            have HCU := Lib.hid hcu
            have HON := Lib.hid ((Only.of_below (S := (· = g)) HX2.out).trans hon fun _ _ h => h)
            clear hcu hon
            go_wp2_with fail
            go_ret
            exact ⟨.inr ⟨HRES.out, rfl, 4, by omega, HCU.out⟩, HON.out⟩)
       ·have hI2 : (1099511627776 : Int) < (M : Int) := by omega
        clear hg
        go_wp2_with fail
        all_goals first
         | (exfalso; omega)
         | (refine (rfail_any base g v r 0 4 _ HM2.out).mono ?_
            rintro x w9 ⟨⟨rr, rfl⟩, hcu, hon⟩
            have HCU := Lib.hid hcu
            have HON := Lib.hid ((Only.of_below (S := (· = g)) HX2.out).trans hon fun _ _ h => h)
            clear hcu hon
            go_wp2_with fail
            go_ret
            exact ⟨.inr ⟨HRES.out, rfl, 4, by omega, HCU.out⟩, HON.out⟩)
      ·have hq : ((n2 : Int) != 5) = true := by simp [bne_iff_ne]; omega
       clear hg
       go_wp2_with fail
       all_goals first
        | (exfalso; omega)
        | (refine (rfail_any base g v r 0 4 _ HM2.out).mono ?_
           rintro x w9 ⟨⟨rr, rfl⟩, hcu, hon⟩
           have HCU := Lib.hid hcu
           have HON := Lib.hid ((Only.of_below (S := (· = g)) HX2.out).trans hon fun _ _ h => h)
           clear hcu hon
           go_wp2_with fail
           go_ret
           exact ⟨.inr ⟨HRES.out, rfl, 4, by omega, HCU.out⟩, HON.out⟩)
    ·have hI : (128 : Int) ≤ (b.toNat : Int) := by omega
     have HGO2 := Lib.hid (show numGo 0 0 r = numGo 5 M (r.drop 5) by
      rw [HGOB.out, HSTEP.out, if_neg hb1])
     have HMN2 := Lib.hid (show M < 128 ^ 5 by have h1 := HMM.out; have h2 := HN.out; simp only [Nat.reducePow] at h1 h2 ⊢; omega)
     clear hb1
     go_wp2_with (first | (with_reducible refine wpList_loadL HM.out.load rfl _ rfl rfl ?_) | (with_reducible refine wpList_loadL HM.out.err rfl _ rfl rfl ?_) | (with_reducible refine wpList_loadL HL.out rfl _ rfl rfl ?_))
     go_roundw
     case rel => exact ⟨5, M, by omega, by omega, by go_num, by go_num, rfl, HGO2.out, HMN2.out, by first | rfl | trivial⟩
     case measure => simp [intOf]
   ·obtain ⟨q, hadr0, hld⟩ := byte_at HM.out.rest.slice 5 b hbk
    have hadr : ∀ W, (Instr.indexAt 23 v (.int .i64 5)).run Tryz.prog W = .ok (.pointer (some q)) W := hadr0
    have HL := Lib.hid hld
    have hsum : (N : Int) + (x : Int) * 34359738368 = (M : Int) := by have h := HMM.out; simp only [Nat.reducePow] at h; omega
    have hMb : M < 4398046511104 := by have h1 := HMM.out; have h2 := HN.out; simp only [Nat.reducePow] at h1 h2; omega
    have hb256 : b.toNat < 256 := b.toNat_lt
    have hlI : (5 : Int) < (r.length : Int) := by omega
    have hu' := hu.trans (rfl : (Value.int .i64 ((128 ^ 5 : Nat) : Int)) = .int .i64 34359738368)
    clear hadr0 hld hbk hu
    subst hu'
    by_cases hb1 : b.toNat < 128
    ·have hI : ¬ (128 : Int) ≤ (b.toNat : Int) := by omega
     have HGO2 := Lib.hid (show numGo 0 0 r = (6, M) by
      rw [HGOB.out, HSTEP.out, if_pos hb1])
     go_wp2_with (first | (with_reducible refine wpList_loadL HM.out.load rfl _ rfl rfl ?_) | (with_reducible refine wpList_loadL HM.out.err rfl _ rfl rfl ?_) | (with_reducible refine wpList_loadL HL.out rfl _ rfl rfl ?_))
     refine (refNumber_any M _ (by omega)).mono ?_
     rintro x w2 ⟨u2, rfl, hu2, hx2⟩
     have hlu := fun W => bytes_len hu2.slice W
     have HM2 := Lib.hid (HM.out.below hx2)
     have HX2 := Lib.hid hx2
     clear hu2 hx2 hI hb1 hadr
     obtain ⟨n2, hn2⟩ : ∃ n, (encN M).length = n := ⟨_, rfl⟩
     rw [hn2] at hlu
     have HN2 := Lib.hid hn2
     clear hn2
     by_cases hg : n2 = 6 ∧ M ≤ 1099511627776 ∧ M ≤ most
     ·obtain ⟨rfl, hg2, hg3⟩ := hg
      have hlu' : ∀ W, (Builtin.len_ #[23] 3 #[u2]).run Tryz.prog W = .ok (.int .i64 6) W := hlu
      clear hlu
      have hI2 : ¬ (1099511627776 : Int) < (M : Int) := by omega
      have hI3 : ¬ (most : Int) < (M : Int) := by omega
      have HRES := Lib.hid (show getN most r = some (M, r.drop 6) from by rw [getN_go, HGO2.out, if_neg (by rw [HN2.out]; rintro (h | h | h | h) <;> omega)])
      obtain ⟨vy, hsy0, hry, hyc, hy1⟩ := rest_low HM2.out.rest 6 (by omega)
      have hsy : ∀ W, (Instr.sliceAt 23 v (some (.int .i64 6)) none none).run Tryz.prog W = .ok vy W := hsy0
      obtain ⟨w3, hrun, hb3, ho3, hr3⟩ := HM2.out.put (ty := 23) 0 (by omega) vy hyc hy1 (by kernel_rfl)
      have HCU := Lib.hid (show CrV base g w3 vy (r.drop 6) 0 from ⟨hb3, hr3 hry⟩)
      have HON := Lib.hid ((Only.of_below (S := (· = g)) HX2.out).trans ho3 fun _ _ h => h)
      clear hsy0 hry hyc hy1 hb3 ho3 hr3 hg2 hg3
      go_wp2_with (first | (with_reducible refine wpList_loadL HM2.out.load rfl _ rfl rfl ?_) | (refine wpList_store rfl rfl 23 _ _ rfl (.pointer (some ⟨g, 0, none⟩)) _ rfl rfl hrun ?_))
      all_goals first
       | (exfalso; omega)
       | (go_ret
          exact ⟨.inl ⟨M, r.drop 6, vy, HRES.out, rfl, HCU.out⟩, HON.out⟩)
     ·have HRES := Lib.hid (show getN most r = none from by rw [getN_go, HGO2.out, if_pos (by rw [HN2.out]; by_cases h1 : n2 = 6; by_cases h2 : M ≤ 1099511627776; exact .inr (.inr (.inr (by omega))); exact .inr (.inr (.inl (by omega))); exact .inr (.inl (fun h => h1 h.symm)))])
      by_cases hg1 : n2 = 6
      ·subst hg1
       have hlu' : ∀ W, (Builtin.len_ #[23] 3 #[u2]).run Tryz.prog W = .ok (.int .i64 6) W := hlu
       clear hlu
       by_cases hg2 : M ≤ 1099511627776
       ·have hI2 : ¬ (1099511627776 : Int) < (M : Int) := by omega
        have hI3 : (most : Int) < (M : Int) := by omega
        clear hg
        go_wp2_with fail
        all_goals first
         | (exfalso; omega)
         | (refine (rfail_any base g v r 0 4 _ HM2.out).mono ?_
            rintro x w9 ⟨⟨rr, rfl⟩, hcu, hon⟩
            have HCU := Lib.hid hcu
            have HON := Lib.hid ((Only.of_below (S := (· = g)) HX2.out).trans hon fun _ _ h => h)
            clear hcu hon
            go_wp2_with fail
            go_ret
            exact ⟨.inr ⟨HRES.out, rfl, 4, by omega, HCU.out⟩, HON.out⟩)
       ·have hI2 : (1099511627776 : Int) < (M : Int) := by omega
        clear hg
        go_wp2_with fail
        all_goals first
         | (exfalso; omega)
         | (refine (rfail_any base g v r 0 4 _ HM2.out).mono ?_
            rintro x w9 ⟨⟨rr, rfl⟩, hcu, hon⟩
            have HCU := Lib.hid hcu
            have HON := Lib.hid ((Only.of_below (S := (· = g)) HX2.out).trans hon fun _ _ h => h)
            clear hcu hon
            go_wp2_with fail
            go_ret
            exact ⟨.inr ⟨HRES.out, rfl, 4, by omega, HCU.out⟩, HON.out⟩)
      ·have hq : ((n2 : Int) != 6) = true := by simp [bne_iff_ne]; omega
       clear hg
       go_wp2_with fail
       all_goals first
        | (exfalso; omega)
        | (refine (rfail_any base g v r 0 4 _ HM2.out).mono ?_
           rintro x w9 ⟨⟨rr, rfl⟩, hcu, hon⟩
           have HCU := Lib.hid hcu
           have HON := Lib.hid ((Only.of_below (S := (· = g)) HX2.out).trans hon fun _ _ h => h)
           clear hcu hon
           go_wp2_with fail
           go_ret
           exact ⟨.inr ⟨HRES.out, rfl, 4, by omega, HCU.out⟩, HON.out⟩)
    ·have hI : (128 : Int) ≤ (b.toNat : Int) := by omega
     have HGO2 := Lib.hid (show numGo 0 0 r = numGo 6 M (r.drop 6) by
      rw [HGOB.out, HSTEP.out, if_neg hb1])
     have HMN2 := Lib.hid (show M < 128 ^ 6 by have h1 := HMM.out; have h2 := HN.out; simp only [Nat.reducePow] at h1 h2 ⊢; omega)
     clear hb1
     go_wp2_with (first | (with_reducible refine wpList_loadL HM.out.load rfl _ rfl rfl ?_) | (with_reducible refine wpList_loadL HM.out.err rfl _ rfl rfl ?_) | (with_reducible refine wpList_loadL HL.out rfl _ rfl rfl ?_))
     go_roundw
     case rel => exact ⟨6, M, by omega, by omega, by go_num, by go_num, rfl, HGO2.out, HMN2.out, by first | rfl | trivial⟩
     case measure => simp [intOf]
  ·have HRES := Lib.hid (show getN most r = none from by
    rw [getN_go, HGO.out]
    by_cases h6 : k < 6
    ·rw [List.drop_eq_nil_of_le (by omega)]
     exact if_pos (.inl rfl)
    ·obtain rfl : k = 6 := by omega
     have : (numGo 6 N (r.drop 6)).1 = 0 := by cases r.drop 6 <;> simp [numGo]
     rw [if_pos (.inl this)])
   by_cases h6 : k < 6
   ·obtain rfl : k = r.length := by omega
    have hlI : ((r.length : Int) < 6) := by omega
    clear hlt hN HGO hu
    go_wp2_with (first | (with_reducible refine wpList_loadL HM.out.load rfl _ rfl rfl ?_) | (with_reducible refine wpList_loadL HM.out.err rfl _ rfl rfl ?_))
    refine (rfail_any base g v r 0 4 _ HM.out).mono ?_
    rintro x w9 ⟨⟨rr, rfl⟩, hcu, hon⟩
    have HCU := Lib.hid hcu
    have HON := Lib.hid hon
    clear hcu hon
    go_wp2_with fail
    go_ret
    exact ⟨.inr ⟨HRES.out, rfl, 4, by omega, HCU.out⟩, HON.out⟩
   ·obtain rfl : k = 6 := by omega
    clear hlt hN HGO hu h6
    go_wp2_with (first | (with_reducible refine wpList_loadL HM.out.load rfl _ rfl rfl ?_) | (with_reducible refine wpList_loadL HM.out.err rfl _ rfl rfl ?_))
    refine (rfail_any base g v r 0 4 _ HM.out).mono ?_
    rintro x w9 ⟨⟨rr, rfl⟩, hcu, hon⟩
    have HCU := Lib.hid hcu
    have HON := Lib.hid hon
    clear hcu hon
    go_wp2_with fail
    go_ret
    exact ⟨.inr ⟨HRES.out, rfl, 4, by omega, HCU.out⟩, HON.out⟩
end Go.Proofs.YtfiadgdinhmgbaaGreatDoor
