/- hash.length: a number's bytes. (Several texts in one.) -/
import Derived.Test.YtdebbmembkbniaaGreatTAZ
import Derived.Test.YtdebbmembkbniaaGreatTAC
import Derived.Test.YtdebbmembkbniaaGreatTAD
import Derived.Shelf.Abstract
/-! hash.take: bytes taken by a sponge. -/
namespace Go.Proofs.YtdebbmembkbniaaGreat
open Go.RowKit Pl Go.Agg Go.Sha
def SpV (g : Nat) (w : World) (l : List UInt8) : Prop := ∃ r : List UInt8, r.length = 64 ∧ r.take (l.length % 64) = rst l ∧ Blk w g 277 (spL (sp l).list r l.length)
theorem bc_append (a b : List UInt8) : Lib.byteCells (a ++ b) = Lib.byteCells a ++ Lib.byteCells b := by simp [Lib.byteCells]
theorem spL_setm (l : List W) (bs : List UInt8) (m m' : Nat) (hl : l.length = 8) (hbs : bs.length = 64) : (spL l bs m).setIfInBounds 72 (.int .u64 (m' : Int)) = spL l bs m' := by
 simp only [spL, List.setIfInBounds_toArray]
 rw [List.set_append_right _ _ (by rw [List.length_map, hl]; omega), List.length_map, hl, List.set_append_right _ _ (by rw [bc_length, hbs]; omega), bc_length, hbs]
 rfl
theorem spL_copy (l : List W) (r x : List UInt8) (m i n : Nat) (hl : l.length = 8) (hr : r.length = 64) (hx : x.length = n) (hn : i + n ≤ 64) :
  ((l.map vW ++ (Lib.byteCells r ++ [Value.int .u64 (m : Int)])).take (8 + i) ++ Lib.byteCells x ++ (l.map vW ++ (Lib.byteCells r ++ [Value.int .u64 (m : Int)])).drop (8 + i + n)).toArray = spL l (r.take i ++ x ++ r.drop (i + n)) m := by
 have e : l.map vW ++ (Lib.byteCells r ++ [Value.int .u64 (m : Int)]) = (l.map vW ++ Lib.byteCells (r.take i)) ++ (Lib.byteCells ((r.drop i).take n) ++ (Lib.byteCells (r.drop (i + n)) ++ [Value.int .u64 (m : Int)])) := by
  have h : r = r.take i ++ ((r.drop i).take n ++ r.drop (i + n)) := by rw [← List.drop_drop, List.take_append_drop, List.take_append_drop]
  conv => lhs; rw [h]
  simp only [bc_append, List.append_assoc]
 rw [e]
 have h1 : (l.map vW ++ Lib.byteCells (r.take i)).length = 8 + i := by rw [List.length_append, List.length_map, bc_length, hl, List.length_take]; omega
 have h2 : ((l.map vW ++ Lib.byteCells (r.take i)) ++ Lib.byteCells ((r.drop i).take n)).length = 8 + i + n := by rw [List.length_append, h1, bc_length, List.length_take, List.length_drop]; omega
 rw [List.take_left' h1, ← List.append_assoc (l.map vW ++ Lib.byteCells (r.take i)), List.drop_left' h2]
 simp only [spL, bc_append, List.append_assoc]
section
variable {g : Nat} {w : World} {L r2 x : List UInt8} {n : Nat}
theorem SpV.short (hr : r2.take (L.length % 64 + n) = rst L ++ x) (h2 : r2.length = 64) (hlt : L.length % 64 + n < 64) (hx : x.length = n) (hb : Blk w g 277 (spL (sp L).list r2 (L.length + n))) : SpV g w (L ++ x) := by
 obtain ⟨e1, e2⟩ := sp_short (l := L) (b := x) (by omega)
 have el : (L ++ x).length = L.length + n := by rw [List.length_append, hx]
 refine ⟨r2, h2, ?_, by rw [e1, el]; exact hb⟩
 rw [el, e2, ← hr]
 congr 1
 omega
theorem SpV.full (hr : r2.take (L.length % 64 + n) = rst L ++ x) (h2 : r2.length = 64) (hlt : L.length % 64 + n = 64) (hx : x.length = n) (hb : Blk w g 277 (spL (Sha.block (sp L) r2).list r2 (L.length + n))) : SpV g w (L ++ x) := by
 obtain ⟨e1, e2⟩ := sp_full (l := L) (b := x) (by omega)
 have el : (L ++ x).length = L.length + n := by rw [List.length_append, hx]
 have e3 : r2 = rst L ++ x := by rw [← hr, List.take_of_length_le (by omega)]
 refine ⟨r2, h2, ?_, by rw [e1, el, ← e3]; exact hb⟩
 rw [el, e2, show (L.length + n) % 64 = 0 by omega]
 rfl
end
def lenV : Value → Nat
 | .slice _ n _ => n
 | _ => 0
set_option maxRecDepth 100000 in
set_option maxHeartbeats 32000000 in
theorem take_any (g : Nat) (v : Value) (l b : List UInt8) (hlen : l.length + b.length < 1000000000000) (w : World) (hs : SpV g w l) (hb : SliceOf EB w v b) (hne : b = [] ∨ v.ownBlock ≠ some g) (hc : ∀ p n c, v = .slice p n c → n ≤ c) :
  Calls Tryz.prog 156 #[.pointer (some ⟨g, 0, none⟩), v] w fun e w' => (∃ r, e = .returned r) ∧ SpV g w' (l ++ b) ∧ Only (· = g) w w' := by
 have HS := Lib.hid hs
 have HB := Lib.hid hb
 clear hs hb
 go_enter Tryz.func156, Tryz.ntmps156
 go_wp2_with fail
 go_loopw [1] (fun sl wr => ∃ (k : Nat) (bv : Value), k ≤ b.length ∧ bv = sl ∧ SliceOf EB wr bv (b.drop k) ∧ (b.drop k = [] ∨ bv.ownBlock ≠ some g) ∧ (∀ p n c, bv = .slice p n c → n ≤ c) ∧ SpV g wr (l ++ b.take k) ∧ Only (· = g) w wr) (fun sl _ => lenV sl)
 case atStart => exact ⟨0, v, by omega, rfl, by rw [List.drop_zero]; exact HB.out, hne, hc, by rw [List.take_zero, List.append_nil]; exact HS.out, Only.refl _ _⟩
 case round =>
  obtain ⟨wr1, rfl⟩ : ∃ y : World, y = wr := ⟨_, rfl⟩
  obtain ⟨k, bv, hk, rfl, hu, hun, hcu, hsp, ho⟩ := hrel
  have hlv := fun W => bytes_len hu W
  obtain ⟨L, hL⟩ : ∃ L, l ++ b.take k = L := ⟨_, rfl⟩
  obtain ⟨cur, hcur⟩ : ∃ c, b.drop k = c := ⟨_, rfl⟩
  have hll : L.length + cur.length < 1000000000000 := by rw [← hL, ← hcur, List.length_append, List.length_take, List.length_drop]; omega
  have hkc : k + cur.length = b.length := by rw [← hcur, List.length_drop]; omega
  have HTK0 := Lib.hid (fun n => (show l ++ b.take (k + n) = L ++ cur.take n by rw [← hL, ← hcur, List.take_add, List.append_assoc]))
  have HDR0 := Lib.hid (fun n => (show b.drop (k + n) = cur.drop n by rw [← hcur, List.drop_drop]))
  rw [hcur] at hu hlv hun
  rw [hL] at hsp
  have HL := Lib.hid hL
  have HCUR := Lib.hid hcur
  clear hL hcur
  by_cases h0 : cur.length = 0
  ·have hd : decide ((0 : Int) < (cur.length : Int)) = false := by rw [h0]; rfl
   have hdN : decide (0 < cur.length) = false := by rw [h0]; rfl
   have HEND := Lib.hid (show L = l ++ b by rw [← HL.out, List.take_of_length_le (by omega)])
   have HSPV := Lib.hid hsp
   have HO := Lib.hid ho
   clear hu hun hcu hsp ho h0
   go_wp2_with fail
   refine bodyPost_end (results_none rfl _ _ _) rfl ?_
   exact ⟨⟨_, rfl⟩, by rw [← HEND.out]; exact HSPV.out, HO.out⟩
  ·have hun := hun.resolve_left (fun e => h0 (by rw [e]; rfl))
   have hd : decide ((0 : Int) < (cur.length : Int)) = true := decide_eq_true (by omega)
   have hdN : decide (0 < cur.length) = true := decide_eq_true (by omega)
   obtain ⟨r, hr, hrt, hbk⟩ := hsp
   obtain ⟨n, hn⟩ : ∃ n, min cur.length (64 - L.length % 64) = n := ⟨_, rfl⟩
   have hn1 : 1 ≤ n := by omega
   have hn2 : n ≤ cur.length := by omega
   have hn3 : L.length % 64 + n ≤ 64 := by omega
   have hxn : (cur.take n).length = n := by rw [List.length_take]; omega
   have hx64 : cur.take (64 - L.length % 64) = cur.take n := by
    rw [← hn]
    by_cases hh : cur.length ≤ 64 - L.length % 64
    ·rw [List.take_of_length_le hh, Nat.min_eq_left hh, List.take_length]
    ·rw [Nat.min_eq_right (by omega)]
   have HLM := Lib.hid (hbk.one (P := Tryz.prog) 72 (spL_many _ _ _ rfl hr) Tryz.underlying151 rfl)
   obtain ⟨w2, hrun2, hb2, ho2, _⟩ := run_copyAt (o := 8 + L.length % 64) (n := 64 - L.length % 64) (dc := 64 - L.length % 64) 3 hu hbk (by simp [bc_length, hr, St.list]; omega)
   rw [hn, hx64, spL_copy _ _ _ _ _ _ rfl hr hxn hn3] at hb2
   rw [hn] at hrun2
   obtain ⟨r2, hr2⟩ : ∃ q, r.take (L.length % 64) ++ cur.take n ++ r.drop (L.length % 64 + n) = q := ⟨_, rfl⟩
   rw [hr2] at hb2
   have HR2 := Lib.hid (show r2.length = 64 by rw [← hr2]; simp only [List.length_append, List.length_take, List.length_drop]; omega)
   have HRT := Lib.hid (show r2.take (L.length % 64 + n) = rst L ++ cur.take n by rw [← hr2, hrt, List.take_left' (by rw [List.length_append, rst_length, hxn])])
   have HB2 := Lib.hid hb2
   have HO2 := Lib.hid (ho.trans ho2 (fun _ _ h => h))
   have hu2 := hu.onlyS ho2 (fun b hb e => hun (by rw [hb, e]))
   obtain ⟨bu, hsf, hu3, hun3, hcu2⟩ := sliceOf_from hu2 hcu n hn2
   have hun2 : bu.ownBlock ≠ some g := fun e => hun (hun3 g e)
   have HSF := Lib.hid hsf
   have HU2 := Lib.hid hu3
   have HRUN2 := Lib.hid hrun2
   have HSL := Lib.hid (fun W => run_sliceArr (P := Tryz.prog) (t := 275) (e := 5) (w := W) Tryz.underlying275 (by kernel_rfl) g 8 (L.length % 64) (by omega))
   have HTK := Lib.hid (HTK0.out n)
   have HDR := Lib.hid (HDR0.out n)
   have HME := Lib.hid (show lenV bu < lenV bv by
    obtain ⟨p1, c1, e1⟩ := hu3.form
    obtain ⟨p2, c2, e2⟩ := hu.form
    rw [e1, e2]
    simp only [lenV, List.length_drop]
    omega)
   clear hbk hrun2 hb2 ho2 hrt hr2 hsf hu3 hu2 hn hx64 ho hu HTK0 HDR0
   go_wp2_with (first | (with_reducible refine wpList_loadL HLM.out rfl _ rfl rfl ?_) | (refine wpList_valw rfl (exec_remQ (m := L.length) (n := 64) (by decide) (by omega) rfl rfl rfl) ?_) | (refine wpList_valw rfl (exec_cvQI (n := L.length % 64) (by omega) rfl rfl) ?_) | (refine wpList_valw rfl (exec_slice rfl rfl rfl (HSL.out _)) ?_) | (refine wpList_copyV rfl _ _ rfl _ _ rfl rfl HRUN2.out ?_))
   try simp only [List.append_eq, List.cons_append, List.nil_append]
   try simp only [Act.put, List.setIfInBounds_toArray, List.set_cons_succ, List.set_cons_zero]
   obtain ⟨w_d, hwd⟩ : ∃ W, W = w2.drew := ⟨_, rfl⟩
   have hd : Below w2.heap.size w2 w_d := by rw [hwd]; exact (Below.refl _ _).drew
   have HB_d := Lib.hid (HB2.out.below hd)
   have HO_d := Lib.hid (HO2.out.trans (Only.of_below (S := (· = g)) hd) (fun _ _ h => h))
   have HU_d := Lib.hid (SliceOf.below HU2.out hd)
   have HLD := Lib.hid (HB_d.out.one (P := Tryz.prog) 72 (spL_many _ _ _ rfl HR2.out) Tryz.underlying151 rfl)
   obtain ⟨w_s, hrs, hbs, hos⟩ := Blk.run_one (P := Tryz.prog) (ty := 151) HB_d.out 72 (by rw [spL_size _ _ _ rfl HR2.out]; decide) (.int .u64 ((L.length + n : Nat) : Int)) rfl rfl (by kernel_rfl) (spL (sp L).list r2 (L.length + n)) (spL_setm _ _ _ _ rfl HR2.out)
   have HRS := Lib.hid hrs
   have HBS := Lib.hid hbs
   have HOS := Lib.hid (HO_d.out.trans hos (fun _ _ h => h))
   have HUS := Lib.hid (HU_d.out.onlyS hos (fun b hb e => hun2 (by rw [hb, e])))
   clear hrs hbs hos
   have hT : True := trivial
   refine wp_region_held_drew (S := fun _ => True) (by kernel_rfl) (by trivial) (fun hHeld => ?_)
   rw [← hwd]
   clear hwd hd
   refine held_take 0 (.pointer (some ⟨g, 0, none⟩)) rfl (by kernel_rfl) (fun _ _ _ h => h) rfl (fun W _ => by kernel_rfl) (by assumption) ?_
   try simp only [Act.put, List.setIfInBounds_toArray, List.set_cons_succ, List.set_cons_zero]
   refine held_take 1 (bv) rfl (by kernel_rfl) (fun _ _ _ h => h) rfl (fun W _ => by kernel_rfl) (by assumption) ?_
   try simp only [Act.put, List.setIfInBounds_toArray, List.set_cons_succ, List.set_cons_zero]
   refine held_take 2 (.int .i64 ((n : Nat) : Int)) rfl (by kernel_rfl) (fun _ _ _ h => h) rfl (fun W _ => by kernel_rfl) (by assumption) ?_
   try simp only [Act.put, List.setIfInBounds_toArray, List.set_cons_succ, List.set_cons_zero]
   refine held_take 3 (bu) rfl (by kernel_rfl) (fun _ _ _ h => h) rfl (fun W _ => exec_slice rfl rfl rfl (HSF.out W)) (by assumption) ?_
   try simp only [Act.put, List.setIfInBounds_toArray, List.set_cons_succ, List.set_cons_zero]
   refine held_take 4 (.pointer (some ⟨g, 0, none⟩)) rfl (by kernel_rfl) (fun _ _ _ h => h) rfl (fun W _ => by kernel_rfl) (by assumption) ?_
   try simp only [Act.put, List.setIfInBounds_toArray, List.set_cons_succ, List.set_cons_zero]
   refine held_take 5 (.pointer (some ⟨g, 0, none⟩)) rfl (by kernel_rfl) (fun _ _ _ h => h) rfl (fun W _ => by kernel_rfl) (by assumption) ?_
   try simp only [Act.put, List.setIfInBounds_toArray, List.set_cons_succ, List.set_cons_zero]
   refine held_take 6 (.pointer (some ⟨g, 72, none⟩)) rfl (by kernel_rfl) (fun _ _ _ h => h) rfl (fun W _ => by kernel_rfl) (by assumption) ?_
   try simp only [Act.put, List.setIfInBounds_toArray, List.set_cons_succ, List.set_cons_zero]
   refine held_take 8 (.int .i64 ((n : Nat) : Int)) rfl (by kernel_rfl) (fun _ _ _ h => h) rfl (fun W _ => by kernel_rfl) (by assumption) ?_
   try simp only [Act.put, List.setIfInBounds_toArray, List.set_cons_succ, List.set_cons_zero]
   refine held_take 9 (.int .u64 ((n : Nat) : Int)) rfl (by kernel_rfl) (fun _ _ _ h => h) rfl (fun W _ => exec_cvIQ (n := n) (by omega) rfl rfl) (by assumption) ?_
   try simp only [Act.put, List.setIfInBounds_toArray, List.set_cons_succ, List.set_cons_zero]
   refine held_take 11 (bu) rfl (by kernel_rfl) (fun _ _ _ h => h) rfl (fun W _ => by kernel_rfl) (by assumption) ?_
   try simp only [Act.put, List.setIfInBounds_toArray, List.set_cons_succ, List.set_cons_zero]
   refine held_one 7 rfl (by kernel_rfl) ?_
   refine step_load rfl 151 _ rfl _ (.int .u64 (L.length : Int)) rfl HLD.out.now ?_
   refine ⟨trivial, ?_⟩
   try simp only [Act.put, List.setIfInBounds_toArray, List.set_cons_succ, List.set_cons_zero]
   refine held_take 10 (.int .u64 ((L.length + n : Nat) : Int)) rfl (by kernel_rfl) (fun _ _ _ h => h) rfl (fun W _ => exec_addQ (m := L.length) (n := n) (by omega) rfl rfl rfl) (by assumption) ?_
   try simp only [Act.put, List.setIfInBounds_toArray, List.set_cons_succ, List.set_cons_zero]
   refine held_take 12 (.pointer (some ⟨g, 0, none⟩)) rfl (by kernel_rfl) (fun _ _ _ h => h) rfl (fun W _ => by kernel_rfl) (by assumption) ?_
   try simp only [Act.put, List.setIfInBounds_toArray, List.set_cons_succ, List.set_cons_zero]
   refine held_take 13 (.pointer (some ⟨g, 72, none⟩)) rfl (by kernel_rfl) (fun _ _ _ h => h) rfl (fun W _ => by kernel_rfl) (by assumption) ?_
   try simp only [Act.put, List.setIfInBounds_toArray, List.set_cons_succ, List.set_cons_zero]
   refine held_one 14 rfl (by kernel_rfl) ?_
   refine Agg.step_store rfl rfl 151 _ _ rfl (.pointer (some ⟨g, 72, none⟩)) (.int .u64 ((L.length + n : Nat) : Int)) rfl rfl HRS.out ?_
   refine ⟨trivial, ?_⟩
   try simp only [Act.put, List.setIfInBounds_toArray, List.set_cons_succ, List.set_cons_zero]
   refine held_end (by kernel_rfl) ?_
   by_cases h64 : L.length % 64 + n = 64
   ·have hq1 : (((L.length % 64 + n : Nat) : Int) == 64) = true := by rw [h64]; rfl
    have hq2 : decide (((L.length % 64 + n : Nat) : Int) = 64) = true := decide_eq_true (by omega)
    have hq3 : decide (L.length % 64 + n = 64) = true := decide_eq_true h64
    have HEB := Lib.hid (enters_of Tryz.func176 (by kernel_rfl) rfl : ∀ args w, (callFunc 176 args).run Tryz.prog w = .ok (.enter 176 args) w)
    go_wp2_with (first | (refine wpList_valw rfl (exec_addI (m := L.length % 64) (n := n) (by omega) rfl rfl rfl) ?_))
    try simp only [List.append_eq, List.cons_append, List.nil_append]
    try simp only [Act.put, List.setIfInBounds_toArray, List.set_cons_succ, List.set_cons_zero]
    obtain ⟨w_e, hwd⟩ : ∃ W, W = w_s.drew := ⟨_, rfl⟩
    have hd : Below w_s.heap.size w_s w_e := by rw [hwd]; exact (Below.refl _ _).drew
    have HB_e := Lib.hid (HBS.out.below hd)
    have HO_e := Lib.hid (HOS.out.trans (Only.of_below (S := (· = g)) hd) (fun _ _ h => h))
    have HU_e := Lib.hid (SliceOf.below HUS.out hd)
    refine wp_region_held_drew (S := fun _ => True) (by kernel_rfl) (by trivial) (fun hHeld => ?_)
    rw [← hwd]
    clear hwd hd
    refine held_take 0 (.pointer (some ⟨g, 0, none⟩)) rfl (by kernel_rfl) (fun _ _ _ h => h) rfl (fun W _ => by kernel_rfl) (by assumption) ?_
    try simp only [Act.put, List.setIfInBounds_toArray, List.set_cons_succ, List.set_cons_zero]
    refine held_take 1 (.pointer (some ⟨g, 0, none⟩)) rfl (by kernel_rfl) (fun _ _ _ h => h) rfl (fun W _ => by kernel_rfl) (by assumption) ?_
    try simp only [Act.put, List.setIfInBounds_toArray, List.set_cons_succ, List.set_cons_zero]
    refine held_take 2 (.pointer (some ⟨g, 0, none⟩)) rfl (by kernel_rfl) (fun _ _ _ h => h) rfl (fun W _ => by kernel_rfl) (by assumption) ?_
    try simp only [Act.put, List.setIfInBounds_toArray, List.set_cons_succ, List.set_cons_zero]
    refine held_take 3 (.pointer (some ⟨g, 0, none⟩)) rfl (by kernel_rfl) (fun _ _ _ h => h) rfl (fun W _ => by kernel_rfl) (by assumption) ?_
    try simp only [Act.put, List.setIfInBounds_toArray, List.set_cons_succ, List.set_cons_zero]
    refine held_take 4 (.pointer (some ⟨g, 0, none⟩)) rfl (by kernel_rfl) (fun _ _ _ h => h) rfl (fun W _ => by kernel_rfl) (by assumption) ?_
    try simp only [Act.put, List.setIfInBounds_toArray, List.set_cons_succ, List.set_cons_zero]
    refine held_take 5 (.pointer (some ⟨g, 8, none⟩)) rfl (by kernel_rfl) (fun _ _ _ h => h) rfl (fun W _ => by kernel_rfl) (by assumption) ?_
    try simp only [Act.put, List.setIfInBounds_toArray, List.set_cons_succ, List.set_cons_zero]
    refine held_one 6 rfl (by kernel_rfl) ?_
    refine step_call rfl 176 _ _ rfl #[.pointer (some ⟨g, 0, none⟩), .pointer (some ⟨g, 8, none⟩)] (by simp only [List.map_toArray, List.map_cons, List.map_nil]; rfl) (fun W => HEB.out _ W) ?_
    refine (block_any g (sp L) r2 HR2.out (L.length + n) w_e HB_e.out).mono ?_
    rintro e w_f ⟨⟨rr, rfl⟩, hb, ho⟩
    have HSV := Lib.hid (SpV.full HRT.out HR2.out h64 hxn hb)
    have HO_f := Lib.hid (HO_e.out.trans ho (fun _ _ h => h))
    have HU_f := Lib.hid (HU_e.out.onlyS ho (fun b hb e => hun2 (by rw [hb, e])))
    clear hb ho
    refine ⟨_, rfl, trivial, ?_⟩
    try simp only [Act.put, List.setIfInBounds_toArray, List.set_cons_succ, List.set_cons_zero]
    refine held_end (by kernel_rfl) ?_
    go_wp2_with fail
    go_roundw
    case rel => exact ⟨k + n, bu, by omega, rfl, by rw [HDR.out]; exact HU_f.out, .inr hun2, hcu2, by rw [HTK.out]; exact HSV.out, HO_f.out⟩
    case measure => first | exact HME.out | simpa using HME.out
   ·have hq1 : (((L.length % 64 + n : Nat) : Int) == 64) = false := by rw [beq_eq_false_iff_ne]; omega
    have hq2 : decide (((L.length % 64 + n : Nat) : Int) = 64) = false := decide_eq_false (by omega)
    have hq3 : decide (L.length % 64 + n = 64) = false := decide_eq_false h64
    have HSV := Lib.hid (SpV.short HRT.out HR2.out (by omega) hxn HBS.out)
    go_wp2_with (first | (refine wpList_valw rfl (exec_addI (m := L.length % 64) (n := n) (by omega) rfl rfl rfl) ?_))
    go_roundw
    case rel => exact ⟨k + n, bu, by omega, rfl, by rw [HDR.out]; exact HUS.out, .inr hun2, hcu2, by rw [HTK.out]; exact HSV.out, HOS.out⟩
    case measure => first | exact HME.out | simpa using HME.out
end Go.Proofs.YtdebbmembkbniaaGreat
/-! What hash.end needs: shifts of numbers of 64 bits, bytes out of them, a sponge from world to world. -/
namespace Go.Agg
open Go.RowKit Go.Sha
variable {P : Program}
section
variable {o : Oper} {a : Act} {w : World} {t u : TypeId} {x y : Operand} {m n : Nat}
theorem exec_shlQ (h : m * 8 < 18446744073709551616) (ho : o.op = .binOp .shl t x y u) (hx : a.eval x = .int .u64 (m : Int)) (hy : a.eval y = .int .u64 3) : (execOp a.eval o).run P w = .ok (.value (.int .u64 ((m * 8 : Nat) : Int))) w := by
 have hc : (binOp .shl t (.int .u64 (m : Int)) (.int .u64 3)).run P w = .ok (.int .u64 ((m * 8 : Nat) : Int)) w := by
  simp only [binOp, Op.shift]
  refine congrArg (fun n => Result.ok (Value.int .u64 n) w) ?_
  have e : (m : Int) * 2 ^ (min (3 : Int).toNat IntKind.u64.bits) = ((m * 8 : Nat) : Int) := by
   rw [show min (3 : Int).toNat IntKind.u64.bits = 3 from rfl]
   omega
  rw [e]
  simp only [IntKind.wrap, IntKind.signed, IntKind.bits, Bool.false_and, Bool.false_eq_true, if_false]
  omega
 simp only [execOp, ho, hx, hy]
 simp [eqGuard, hc]
theorem fdiv_pow (m s : Nat) : (m : Int).fdiv (2 ^ s) = ((m / 2 ^ s : Nat) : Int) := by
 have e : ((2 : Int) ^ s) = ((2 ^ s : Nat) : Int) := by push_cast; rfl
 rw [e, Int.fdiv_eq_ediv_of_nonneg _ (Int.natCast_nonneg _)]
 exact (Int.natCast_ediv _ _).symm
theorem exec_shrN {k k' : IntKind} (hn : n ≤ k.bits) (ho : o.op = .binOp .shr t x y u) (hx : a.eval x = .int k (m : Int)) (hy : a.eval y = .int k' (n : Int)) : (execOp a.eval o).run P w = .ok (.value (.int k ((m / 2 ^ n : Nat) : Int))) w := by
 have hc : (binOp .shr t (.int k (m : Int)) (.int k' (n : Int))).run P w = .ok (.int k ((m / 2 ^ n : Nat) : Int)) w := by
  simp only [binOp, Op.shift, if_neg (show ¬ (n : Int) < 0 by omega)]
  refine congrArg (fun n => Result.ok (Value.int k n) w) ?_
  rw [show min (n : Int).toNat k.bits = n by rw [Int.toNat_natCast]; exact Nat.min_eq_left hn]
  exact fdiv_pow m n
 simp only [execOp, ho, hx, hy]
 simp [eqGuard, hc]
theorem and3 : ∀ i : Fin 32, IntKind.i64.wrap (((BitVec.ofInt 64 (i.1 : Int) &&& BitVec.ofInt 64 3).toNat : Nat) : Int) = ((i.1 % 4 : Nat) : Int) := by decide
theorem exec_and3 {i : Nat} (h : i < 32) (ho : o.op = .binOp .and t x y u) (hx : a.eval x = .int .i64 (i : Int)) (hy : a.eval y = .int .i64 3) : (execOp a.eval o).run P w = .ok (.value (.int .i64 ((i % 4 : Nat) : Int))) w := by
 have hc : (binOp .and t (.int .i64 (i : Int)) (.int .i64 3)).run P w = .ok (.int .i64 ((i % 4 : Nat) : Int)) w := by
  simp only [binOp, Op.intBits]
  exact congrArg (fun n => Result.ok (Value.int .i64 n) w) (and3 ⟨i, h⟩)
 simp only [execOp, ho, hx, hy]
 simp [eqGuard, hc]
theorem exec_shl3 (h : m < 1000) (ho : o.op = .binOp .shl t x y u) (hx : a.eval x = .int .i64 (m : Int)) (hy : a.eval y = .int .u64 3) : (execOp a.eval o).run P w = .ok (.value (.int .i64 ((m * 8 : Nat) : Int))) w := by
 have hc : (binOp .shl t (.int .i64 (m : Int)) (.int .u64 3)).run P w = .ok (.int .i64 ((m * 8 : Nat) : Int)) w := by
  simp only [binOp, Op.shift]
  refine congrArg (fun n => Result.ok (Value.int .i64 n) w) ?_
  have e : (m : Int) * 2 ^ (min (3 : Int).toNat IntKind.i64.bits) = ((m * 8 : Nat) : Int) := by
   rw [show min (3 : Int).toNat IntKind.i64.bits = 3 from rfl]
   omega
  rw [e]
  exact wrap_i64N _ (by omega)
 simp only [execOp, ho, hx, hy]
 simp [eqGuard, hc]
end
end Go.Agg
namespace Go.Proofs.YtdebbmembkbniaaGreat
open Go.RowKit Pl Go.Agg Go.Sha
section
variable {o : Oper} {a : Act} {w : World} {x : Operand} {n : Nat}
theorem exec_cvQB (ho : o.op = .convert 151 5 x) (hx : a.eval x = .int .u64 (n : Int)) : (execOp a.eval o).run Tryz.prog w = .ok (.value (.int .u8 ((UInt8.ofNat n).toNat : Int))) w := by
 have h : ((UInt8.ofNat n).toNat : Int) = (n : Int) % 256 := by rw [UInt8.toNat_ofNat']; omega
 rw [h]
 have hc : (convert 151 5 (.int .u64 (n : Int))).run Tryz.prog w = .ok (.int .u8 ((n : Int) % 256)) w := by
  simp [convert]
  simp [Conv.intToInt, IntKind.wrap, IntKind.signed, IntKind.bits]
 simp [execOp, ho, hx, hc]
theorem exec_cvWB {y : W} (ho : o.op = .convert 204 5 x) (hx : a.eval x = vW y) : (execOp a.eval o).run Tryz.prog w = .ok (.value (.int .u8 ((UInt8.ofNat y.toNat).toNat : Int))) w := by
 have h : ((UInt8.ofNat y.toNat).toNat : Int) = (y.toNat : Int) % 256 := by rw [UInt8.toNat_ofNat']; omega
 rw [h]
 have hc : (convert 204 5 (vW y)).run Tryz.prog w = .ok (.int .u8 ((y.toNat : Int) % 256)) w := by
  simp [convert, vW]
  simp [Conv.intToInt, IntKind.wrap, IntKind.signed, IntKind.bits]
 simp [execOp, ho, hx, hc]
end
section
variable {g : Nat} {w w' : World} {l : List UInt8}
theorem SpV.lt (h : SpV g w l) : g < w.heap.size := by obtain ⟨r, _, _, hb⟩ := h; exact hb.lt
theorem SpV.below (h : SpV g w l) (hb : Below w.heap.size w w') : SpV g w' l := by obtain ⟨r, h1, h2, h3⟩ := h; exact ⟨r, h1, h2, h3.below hb⟩
theorem SpV.only {S : Nat → Prop} (h : SpV g w l) (ho : Only S w w') (hS : ¬ S g) : SpV g w' l := by obtain ⟨r, h1, h2, h3⟩ := h; exact ⟨r, h1, h2, h3.onlyP ho hS⟩
theorem SpV.many (h : SpV g w l) : LoadsL Tryz.prog w 151 (some ⟨g, 72, none⟩) (.int .u64 (l.length : Int)) := by
 obtain ⟨r, h1, h2, h3⟩ := h
 exact h3.one (P := Tryz.prog) 72 (spL_many _ _ _ rfl h1) Tryz.underlying151 rfl
theorem SpV.word (h : SpV g w l) {i : Nat} {x : W} (hx : (sp l).list[i]? = some x) : LoadsL Tryz.prog w 204 (some ⟨g, i, none⟩) (vW x) := by
 obtain ⟨r, h1, h2, h3⟩ := h
 exact spL_word h3 hx
def manyOf (g : Nat) (w : World) : Nat := match w.cell? ⟨g, 72, none⟩ with
 | some (.int _ m) => m.toNat
 | _ => 0
theorem SpV.manyOf (h : SpV g w l) : manyOf g w = l.length := by
 obtain ⟨r, h1, h2, h3⟩ := h
 unfold Go.Proofs.YtdebbmembkbniaaGreat.manyOf
 rw [h3.cell, spL_many _ _ _ rfl h1]
 simp
end
theorem pow_byte (j : Nat) (h : j ≤ 7) : 2 ^ (56 - 8 * j) = 256 ^ (7 - j) := by
 rw [show (256 : Nat) = 2 ^ 8 from rfl, ← Nat.pow_mul]
 congr 1
 omega
theorem pow_byte3 (i : Nat) (h : i < 4) : 2 ^ (24 - i * 8) = 256 ^ (3 - i) := by
 rw [show (256 : Nat) = 2 ^ 8 from rfl, ← Nat.pow_mul]
 congr 1
 omega
end Go.Proofs.YtdebbmembkbniaaGreat
/-! hash.end: what stands behind, and the digest. -/
namespace Go.Proofs.YtdebbmembkbniaaGreat
open Go.RowKit Pl Go.Agg Go.Sha
theorem sum_zeroE : (Tryz.prog.info? 164).map (·.zero) = some (some (.agg (hC (List.replicate 32 0)))) := by kernel_rfl
theorem sum_info (h : List UInt8) (hl : h.length = 32) : (Tryz.prog.info? 164).map (·.size) = some (hC h).size := by rw [hC_size, hl]; kernel_rfl
theorem hC_setE (l : List UInt8) (i : Nat) (c : UInt8) : (hC l).setIfInBounds i (.int .u8 (c.toNat : Int)) = hC (l.set i c) := by simp [hC, Lib.byteCells, List.map_set]
theorem hC_one1 (h : List UInt8) : (hC h).all (·.oneCell') = true := by simp [hC, Lib.byteCells, Value.oneCell']
def outK (x : St) (k : Nat) : List UInt8 := (List.range k).map x.byte ++ List.replicate (32 - k) 0
theorem outK_length (x : St) (k : Nat) (hk : k ≤ 32) : (outK x k).length = 32 := by simp [outK]; omega
theorem outK_set (x : St) (k : Nat) (hk : k < 32) : (outK x k).set k (x.byte k) = outK x (k + 1) := by
 have := set_mid ((List.range k).map x.byte) (x.byte k) 0 (32 - (k + 1))
 rw [List.length_map, List.length_range, show 32 - (k + 1) + 1 = 32 - k by omega] at this
 rw [outK, this, outK, List.range_succ, List.map_append]
 rfl
def bitB (n i : Nat) : UInt8 := UInt8.ofNat (8 * n / 256 ^ (7 - i))
theorem padded_eq (l : List UInt8) : padded l = ((l ++ [128]) ++ List.replicate ((119 - l.length % 64) % 64) 0) ++ (List.range 8).map (bitB l.length) := by
 simp only [padded, tail, List.append_assoc]
 rfl
theorem take1_any (g B : Nat) (v : Value) (l : List UInt8) (c : UInt8) (hlen : l.length < 900000000000) (w : World) (hs : SpV g w l) (ho : Own EB B w v [c]) (hB : g < B) :
  Calls Tryz.prog 156 #[.pointer (some ⟨g, 0, none⟩), v] w fun e w' => (∃ r, e = .returned r) ∧ SpV g w' (l ++ [c]) ∧ Only (· = g) w w' :=
 take_any g v l [c] (by simp; omega) w hs ho.slice (.inr (fun e => by have := (ho.block g e).1; omega)) (fun p m k e => by obtain ⟨_, h⟩ := ho; rcases h with ⟨h, _⟩ | ⟨_, cap, _, h, _, _, hle, _⟩ <;> (rw [h] at e; injection e with _ e2 e3; omega))
set_option maxRecDepth 100000 in
set_option maxHeartbeats 32000000 in
theorem end_any (g : Nat) (l : List UInt8) (hlen : l.length < 100000000000) (w : World) (hs : SpV g w l) :
  Calls Tryz.prog 157 #[.pointer (some ⟨g, 0, none⟩)] w fun e w' => e = .returned (.agg (hC (digest l))) ∧ Only (· = g) w w' := by
 have HS := Lib.hid hs
 have HLW := Lib.hid hs.lt
 obtain ⟨n, hn⟩ : ∃ n, l.length = n := ⟨_, rfl⟩
 have HN := Lib.hid hn
 rw [hn] at hlen
 have HP := Lib.hid (show padded l = ((l ++ [128]) ++ List.replicate ((119 - n % 64) % 64) 0) ++ (List.range 8).map (bitB n) by rw [padded_eq, hn])
 clear hs hn
 go_enter Tryz.func157, Tryz.ntmps157
 go_wp2_with (first | (with_reducible refine wpList_zero rfl 164 rfl (hC (List.replicate 32 0)) sum_zeroE ?_; intro g2 w1 hb hx hg; have HA1 := Lib.hid hb; have HS1 := Lib.hid (HS.out.below hx); have HX1 := Lib.hid hx; have HG1 := Lib.hid hg; have HM1 := Lib.hid (show LoadsL Tryz.prog w1 151 (some ⟨g, 72, none⟩) (.int .u64 (n : Int)) by have := (HS.out.below hx).many; rwa [HN.out] at this); clear hb hx hg) | (with_reducible refine wpList_loadL HM1.out rfl _ rfl rfl ?_) | (refine wpList_valw rfl (exec_shlQ (m := n) (by omega) rfl rfl rfl) ?_) | (refine wpList_slice1 (E := EB) (base := w1.heap.size) rfl _ rfl (128 : UInt8) rfl (Nat.le_refl _) ?_; intro va w2 ho hx; have HV2 := Lib.hid ho; have HS2 := Lib.hid (HS1.out.below hx); have HA2 := Lib.hid (HA1.out.below hx); have HO2 := Lib.hid (Only.of_below (S := (· = g)) hx); clear ho hx))
 have HGN := Lib.hid (show g2 ≠ g from fun e => by have := HLW.out; have := HG1.out; omega)
 refine (take1_any g w1.heap.size va l 128 (by rw [HN.out]; omega) w2 HS2.out HV2.out HS1.out.lt).mono ?_
 rintro e w3 ⟨⟨r3, rfl⟩, hs3, ho3⟩
 have HS3 := Lib.hid hs3
 have HO3 := Lib.hid (HO2.out.trans ho3 (fun _ _ h => h))
 have HA3 := Lib.hid (HA2.out.onlyP ho3 HGN.out)
 clear hs3 ho3
 have HL1 := Lib.hid (show (l ++ [128]).length = n + 1 by rw [List.length_append, HN.out]; rfl)
 obtain ⟨l1, hl1⟩ : ∃ q, l ++ [128] = q := ⟨_, rfl⟩
 rw [hl1] at HS3 HL1 HP
 clear hl1
 go_wp2_with fail
 go_loopw [] (fun wr => ∃ z : Nat, z ≤ (119 - n % 64) % 64 ∧ SpV g wr (l1 ++ List.replicate z 0) ∧ Blk wr g2 164 (hC (List.replicate 32 0)) ∧ Only (· = g) w1 wr) (fun wr => n + 100 - manyOf g wr)
 case atStart => exact ⟨0, by omega, by rw [List.replicate_zero, List.append_nil]; exact HS3.out, HA3.out, HO3.out⟩
 case round =>
  obtain ⟨wr1, rfl⟩ : ∃ y : World, y = wr := ⟨_, rfl⟩
  obtain ⟨z, hz, hsp, hbk, ho⟩ := hrel
  have HZL := Lib.hid (show (l1 ++ List.replicate z (0 : UInt8)).length = n + 1 + z by rw [List.length_append, HL1.out, List.length_replicate])
  have HZS := Lib.hid (show l1 ++ List.replicate (z + 1) (0 : UInt8) = (l1 ++ List.replicate z 0) ++ [0] by rw [List.replicate_succ', List.append_assoc])
  have HSP := Lib.hid hsp
  have HBK := Lib.hid hbk
  have HO := Lib.hid ho
  have HLM := Lib.hid (show LoadsL Tryz.prog wr1 151 (some ⟨g, 72, none⟩) (.int .u64 ((n + 1 + z : Nat) : Int)) by have := hsp.many; rwa [HZL.out] at this)
  have HMY := Lib.hid (show manyOf g wr1 = n + 1 + z by rw [hsp.manyOf, HZL.out])
  clear hsp hbk ho
  obtain ⟨q, hq⟩ : ∃ q, (n + 1 + z) % 64 = q := ⟨_, rfl⟩
  have HRM := Lib.hid (fun (o : Oper) (a : Act) (x y : Operand) (t u : TypeId) (ho : o.op = .binOp .rem t x y u) (hx : a.eval x = .int .u64 ((n + 1 + z : Nat) : Int)) (hy : a.eval y = .int .u64 ((64 : Nat) : Int)) => (show (execOp a.eval o).run Tryz.prog wr1 = .ok (.value (.int .u64 (q : Int))) wr1 by have := exec_remQ (P := Tryz.prog) (w := wr1) (m := n + 1 + z) (n := 64) (by decide) (by omega) ho hx hy; rwa [hq] at this))
  by_cases hlt : z < (119 - n % 64) % 64
  ·have hq1 : ((q : Int) != 56) = true := by rw [bne_iff_ne]; omega
   have hq2 : decide ((q : Int) = 56) = false := decide_eq_false (by omega)
   have hq3 : decide (q = 56) = false := decide_eq_false (by omega)
   have hq4 : (q != 56) = true := by rw [bne_iff_ne]; omega
   go_wp2_with (first | (with_reducible refine wpList_loadL HLM.out rfl _ rfl rfl ?_) | (refine wpList_valw rfl (HRM.out _ _ _ _ _ _ rfl rfl rfl) ?_) | (refine wpList_slice1 (E := EB) (base := wr1.heap.size) rfl _ rfl (0 : UInt8) rfl (Nat.le_refl _) ?_; intro va w2 ho hx; have HV4 := Lib.hid ho; have HS4 := Lib.hid (HSP.out.below hx); have HA4 := Lib.hid (HBK.out.below hx); have HO4 := Lib.hid (HO.out.trans (Only.of_below (S := (· = g)) hx) (fun _ _ h => h)); clear ho hx))
   refine (take1_any g wr1.heap.size va (l1 ++ List.replicate z 0) 0 (by rw [HZL.out]; omega) w2 HS4.out HV4.out HSP.out.lt).mono ?_
   rintro e w5 ⟨⟨r5, rfl⟩, hs5, ho5⟩
   have HS5 := Lib.hid hs5
   have HO5 := Lib.hid (HO4.out.trans ho5 (fun _ _ h => h))
   have HA5 := Lib.hid (HA4.out.onlyP ho5 HGN.out)
   have HM5 := Lib.hid (show manyOf g w5 = n + 1 + z + 1 by rw [hs5.manyOf, List.length_append, HZL.out]; rfl)
   clear hs5 ho5
   go_wp2_with fail
   go_roundw
   case rel => exact ⟨z + 1, by omega, by rw [HZS.out]; exact HS5.out, HA5.out, HO5.out⟩
   case measure => have h1 := HM5.out; have h2 := HMY.out; omega
  ·have hq1 : ((q : Int) != 56) = false := by rw [bne_eq_false_iff_eq]; omega
   have hq2 : decide ((q : Int) = 56) = true := decide_eq_true (by omega)
   have hq3 : decide (q = 56) = true := decide_eq_true (by omega)
   have hq4 : (q != 56) = false := by rw [bne_eq_false_iff_eq]; omega
   obtain rfl : z = (119 - n % 64) % 64 := by omega
   obtain ⟨lz, hlz⟩ : ∃ q, l1 ++ List.replicate ((119 - n % 64) % 64) (0 : UInt8) = q := ⟨_, rfl⟩
   rw [hlz] at HSP HZL HP
   clear hlz HZS HMY
   go_wp2_with (first | (with_reducible refine wpList_loadL HLM.out rfl _ rfl rfl ?_) | (refine wpList_valw rfl (HRM.out _ _ _ _ _ _ rfl rfl rfl) ?_))
   have HZ2 := Lib.hid (show lz.length < n + 100 by rw [HZL.out]; omega)
   go_loopw [4] (fun i wr => ∃ j : Nat, j ≤ 8 ∧ i = .int .i64 (if j ≤ 7 then ((56 - 8 * j : Nat) : Int) else -8) ∧ SpV g wr (lz ++ (List.range j).map (bitB n)) ∧ Blk wr g2 164 (hC (List.replicate 32 0)) ∧ Only (· = g) w1 wr) (fun i _ => (intOf i + 8).toNat)
   case atStart => exact ⟨0, by omega, rfl, by simpa using HSP.out, HBK.out, HO.out⟩
   case round =>
    obtain ⟨wr2, rfl⟩ : ∃ y : World, y = wr := ⟨_, rfl⟩
    obtain ⟨j, hj, rfl, hsp, hbk, ho⟩ := hrel
    have HSP2 := Lib.hid hsp
    have HBK2 := Lib.hid hbk
    have HO2b := Lib.hid ho
    clear hsp hbk ho
    by_cases hj7 : j ≤ 7
    ·rw [if_pos hj7]
     obtain ⟨s, hs⟩ : ∃ s, 56 - 8 * j = s := ⟨_, rfl⟩
     rw [hs]
     have hd1 : decide ((0 : Int) ≤ (s : Int)) = true := decide_eq_true (by omega)
     have hd2 : decide ((s : Int) < 0) = false := decide_eq_false (by omega)
     have HBY := Lib.hid (show UInt8.ofNat (n * 8 / 2 ^ s) = bitB n j by rw [bitB, ← hs, pow_byte j hj7, Nat.mul_comm])
     have HRG := Lib.hid (show lz ++ (List.range (j + 1)).map (bitB n) = (lz ++ (List.range j).map (bitB n)) ++ [bitB n j] by rw [List.range_succ, List.map_append, List.append_assoc]; rfl)
     have HLN := Lib.hid (show (lz ++ (List.range j).map (bitB n)).length < 900000000000 by have := HZ2.out; simp only [List.length_append, List.length_map, List.length_range]; omega)
     have HS64 := Lib.hid (show s ≤ IntKind.u64.bits by show s ≤ 64; omega)
     go_wp2_with (first | (refine wpList_valw rfl (exec_shrN (k := .u64) (m := n * 8) (n := s) HS64.out rfl rfl rfl) ?_) | (refine wpList_valw rfl (exec_cvQB (n := n * 8 / 2 ^ s) rfl rfl) ?_) | (refine wpList_slice1 (E := EB) (base := wr2.heap.size) rfl _ rfl (UInt8.ofNat (n * 8 / 2 ^ s)) rfl (Nat.le_refl _) ?_; intro va w4 ho hx; have HV4 := Lib.hid ho; have HS4 := Lib.hid (HSP2.out.below hx); have HA4 := Lib.hid (HBK2.out.below hx); have HO4 := Lib.hid (HO2b.out.trans (Only.of_below (S := (· = g)) hx) (fun _ _ h => h)); clear ho hx))
     refine (take1_any g wr2.heap.size va (lz ++ (List.range j).map (bitB n)) (UInt8.ofNat (n * 8 / 2 ^ s)) HLN.out w4 HS4.out HV4.out HSP2.out.lt).mono ?_
     rintro e w5 ⟨⟨r5, rfl⟩, hs5, ho5⟩
     have HS5 := Lib.hid (show SpV g w5 (lz ++ (List.range (j + 1)).map (bitB n)) by rw [HRG.out, ← HBY.out]; exact hs5)
     have HO5 := Lib.hid (HO4.out.trans ho5 (fun _ _ h => h))
     have HA5 := Lib.hid (HA4.out.onlyP ho5 HGN.out)
     clear hs5 ho5
     go_wp2_with fail
     go_roundw
     case rel => exact ⟨j + 1, by omega, by first | (congr 1; split <;> omega) | (simp; split <;> omega), HS5.out, HA5.out, HO5.out⟩
     case measure => simp [intOf]; omega
    ·obtain rfl : j = 8 := by omega
     rw [if_neg hj7]
     have hd1 : decide ((0 : Int) ≤ -8) = false := by decide
     have HSX := Lib.hid (show SpV g wr2 (padded l) by rw [HP.out]; exact HSP2.out)
     have HIG := Lib.hid (fun (i : Nat) (h : i < 8) W => (show (Instr.indexAt 273 (.pointer (some ⟨g, 0, none⟩)) (.int .i64 (i : Int))).run Tryz.prog W = .ok (.pointer (some ⟨g, i, none⟩)) W by have := run_idxArr (P := Tryz.prog) (t := 273) (e := 204) (w := W) Tryz.underlying273 (by kernel_rfl) g 0 i h; rwa [Nat.zero_add] at this))
     have HI2 := Lib.hid (fun (i : Nat) (h : i < 32) W => (show (Instr.indexAt 164 (.pointer (some ⟨g2, 0, none⟩)) (.int .i64 (i : Int))).run Tryz.prog W = .ok (.pointer (some ⟨g2, i, none⟩)) W by have := run_idxArr (P := Tryz.prog) (t := 164) (e := 5) (w := W) Tryz.underlying164 (by kernel_rfl) g2 0 i h; rwa [Nat.zero_add] at this))
     obtain ⟨X, hX⟩ : ∃ X, sp (padded l) = X := ⟨_, rfl⟩
     have HDG := Lib.hid (show (List.range 32).map X.byte = digest l by rw [← hX]; rfl)
     have HX := Lib.hid hX
     clear hX
     go_wp2_with fail
     go_loopw [34] (fun i wr => ∃ k : Nat, k ≤ 32 ∧ i = .int .i64 (k : Int) ∧ SpV g wr (padded l) ∧ Blk wr g2 164 (hC (outK X k)) ∧ Only (fun b => b = g ∨ b = g2) w1 wr) (fun i _ => 32 - (intOf i).toNat)
     case atStart => exact ⟨0, by omega, rfl, HSX.out, HBK2.out, HO2b.out.mono (fun _ _ h => .inl h)⟩
     case round =>
      obtain ⟨wr3, rfl⟩ : ∃ y : World, y = wr := ⟨_, rfl⟩
      obtain ⟨k, hk, rfl, hsp, hbk, ho⟩ := hrel
      by_cases hlt : k < 32
      ·have hd2 : decide ((k : Int) < 32) = true := by simp; omega
       obtain ⟨y, hy⟩ : ∃ y, X.list[k / 2 ^ 2]? = some y := ⟨_, List.getElem?_eq_getElem (by simp only [St.list, List.length_cons, List.length_nil]; omega)⟩
       have HLY := Lib.hid (hsp.word (i := k / 2 ^ 2) (x := y) (by rw [HX.out]; exact hy))
       have HCB := Lib.hid (show UInt8.ofNat (y >>> (24 - k % 4 * 8)).toNat = X.byte k by rw [Sha.shaByte_at, BitVec.toNat_ushiftRight, Nat.shiftRight_eq_div_pow, pow_byte3 _ (Nat.mod_lt _ (by omega)), show k / 4 = k / 2 ^ 2 from rfl]; simp [List.getD, hy])
       obtain ⟨w4, hrs, hb4, ho4⟩ := Blk.run_one (P := Tryz.prog) (ty := 5) hbk k (by rw [hC_size, outK_length _ _ hk]; exact hlt) (.int .u8 ((UInt8.ofNat (y >>> (24 - k % 4 * 8)).toNat).toNat : Int)) rfl rfl (by kernel_rfl) (hC (outK X (k + 1))) (by rw [hC_setE, HCB.out, outK_set _ _ hlt])
       have HRS := Lib.hid hrs
       have HB4 := Lib.hid hb4
       have HS4 := Lib.hid (hsp.only ho4 (fun e => HGN.out e.symm))
       have HO4 := Lib.hid (ho.trans ho4 (fun _ _ h => .inr h))
       clear hy hsp hbk ho hrs hb4 ho4
       obtain ⟨i4, hi4⟩ : ∃ i, k / 2 ^ 2 = i := ⟨_, rfl⟩
       obtain ⟨m4, hm4⟩ : ∃ i, k % 4 = i := ⟨_, rfl⟩
       obtain ⟨sh, hsh⟩ : ∃ i, 24 - k % 4 * 8 = i := ⟨_, rfl⟩
       obtain ⟨by_, hby⟩ : ∃ c, UInt8.ofNat (y >>> (24 - k % 4 * 8)).toNat = c := ⟨_, rfl⟩
       have HIA := Lib.hid (fun W => (show (Instr.indexAt 273 (.pointer (some ⟨g, 0, none⟩)) (.int .i64 (i4 : Int))).run Tryz.prog W = .ok (.pointer (some ⟨g, i4, none⟩)) W from HIG.out i4 (by omega) W))
       have HIB := Lib.hid (fun W => HI2.out k hlt W)
       have A1 := Lib.hid (fun (o : Oper) (a : Act) (x y : Operand) (t u : TypeId) (ho : o.op = .binOp .shr t x y u) (hx : a.eval x = .int .i64 (k : Int)) (hy : a.eval y = .int .u64 ((2 : Nat) : Int)) => (show (execOp a.eval o).run Tryz.prog wr3 = .ok (.value (.int .i64 (i4 : Int))) wr3 by have := exec_shrN (P := Tryz.prog) (w := wr3) (k := .i64) (m := k) (n := 2) (by decide) ho hx hy; rwa [hi4] at this))
       have A2 := Lib.hid (fun (o : Oper) (a : Act) (x y : Operand) (t u : TypeId) (ho : o.op = .binOp .and t x y u) (hx : a.eval x = .int .i64 (k : Int)) (hy : a.eval y = .int .i64 3) => (show (execOp a.eval o).run Tryz.prog wr3 = .ok (.value (.int .i64 (m4 : Int))) wr3 by have := exec_and3 (P := Tryz.prog) (w := wr3) hlt ho hx hy; rwa [hm4] at this))
       have A3 := Lib.hid (fun (o : Oper) (a : Act) (x y : Operand) (t u : TypeId) (ho : o.op = .binOp .shl t x y u) (hx : a.eval x = .int .i64 (m4 : Int)) (hy : a.eval y = .int .u64 3) => exec_shl3 (P := Tryz.prog) (w := wr3) (m := m4) (by omega) ho hx hy)
       have A4 := Lib.hid (fun (o : Oper) (a : Act) (x y : Operand) (t u : TypeId) (ho : o.op = .binOp .sub t x y u) (hx : a.eval x = .int .i64 ((24 : Nat) : Int)) (hy : a.eval y = .int .i64 ((m4 * 8 : Nat) : Int)) => (show (execOp a.eval o).run Tryz.prog wr3 = .ok (.value (.int .i64 (sh : Int))) wr3 by have := exec_subI (P := Tryz.prog) (w := wr3) (m := 24) (n := m4 * 8) (by omega) (by omega) ho hx hy; rwa [show 24 - m4 * 8 = sh by rw [← hm4]; exact hsh] at this))
       have A5 := Lib.hid (fun (o : Oper) (a : Act) (x z : Operand) (t u : TypeId) (ho : o.op = .binOp .shr t x z u) (hx : a.eval x = vW y) (hy : a.eval z = .int .i64 (sh : Int)) => exec_shrW (P := Tryz.prog) (w := wr3) (x := y) sh (by omega) ho hx hy)
       have A6 := Lib.hid (fun (o : Oper) (a : Act) (x : Operand) (ho : o.op = .convert 204 5 x) (hx : a.eval x = vW (y >>> sh)) => (show (execOp a.eval o).run Tryz.prog wr3 = .ok (.value (.int .u8 (by_.toNat : Int))) wr3 by have := exec_cvWB (w := wr3) ho hx; rwa [← hsh, hby] at this))
       rw [hby] at HRS
       rw [hi4] at HLY
       have hia := HIA.out
       have hib := HIB.out
       clear hi4 hm4 hsh hby
       go_wp2_with (first | (refine wpList_valw rfl (A1.out _ _ _ _ _ _ rfl rfl rfl) ?_) | (with_reducible refine wpList_loadL HLY.out rfl _ rfl rfl ?_) | (refine wpList_valw rfl (A2.out _ _ _ _ _ _ rfl rfl rfl) ?_) | (refine wpList_valw rfl (A3.out _ _ _ _ _ _ rfl rfl rfl) ?_) | (refine wpList_valw rfl (A4.out _ _ _ _ _ _ rfl rfl rfl) ?_) | (refine wpList_valw rfl (A5.out _ _ _ _ _ _ rfl rfl rfl) ?_) | (refine wpList_valw rfl (A6.out _ _ _ rfl rfl) ?_) | (refine wpList_store rfl rfl 5 _ _ rfl (.pointer (some ⟨g2, k, none⟩)) (.int .u8 (by_.toNat : Int)) rfl rfl HRS.out ?_))
       go_roundw
       case rel => exact ⟨k + 1, by omega, by go_num, HS4.out, HB4.out, HO4.out⟩
       case measure => simp [intOf]; omega
      ·obtain rfl : k = 32 := by omega
       have HB5 := Lib.hid (show Blk wr3 g2 164 (hC (digest l)) by rw [← HDG.out]; have := hbk; rwa [outK, show List.replicate (32 - 32) (0 : UInt8) = [] from rfl, List.append_nil] at this)
       have HO5 := Lib.hid ho
       have HLD := Lib.hid (HB5.out.loads (P := Tryz.prog) Tryz.underlying164 rfl (sum_info _ (digest_length l)))
       clear hsp hbk ho
       go_wp2_with (first | (with_reducible refine wpList_loadL HLD.out rfl _ rfl rfl ?_) | ((with_reducible refine wpList_put rfl rfl 164 _ _ rfl g2 (hC (digest l)) (hC (digest l)) rfl rfl HB5.out (sum_info _ (digest_length l)) rfl (hC_one1 _) ?_); intro w7 hb7 hx7 hz7 hk7; have HB7 := Lib.hid hb7; have HO7 := Lib.hid (show Only (· = g) w w7 from (Only.of_below HX1.out).trans (HO5.out.trans (Only.mono (S := (· = g2)) ⟨hx7.os, hx7.tape, hx7.output, by rw [hz7]; exact Nat.le_refl _, fun i _ hi => hk7 i hi⟩ (fun _ _ h => h)) (fun _ _ h => .inr h)) (fun i hi h => h.elim id (fun e => by have := HG1.out; omega))); clear hb7 hx7 hz7 hk7))
       exact post_row rfl rfl HB7.out Tryz.underlying164 rfl (sum_info _ (digest_length l)) rfl ⟨rfl, HO7.out⟩
end Go.Proofs.YtdebbmembkbniaaGreat
/-! hash.Sum: the digest of parts. -/
namespace Go.Proofs.YtdebbmembkbniaaGreat
open Go.RowKit Pl Go.Agg Go.Sha
structure PartsAt (w : World) (v : Value) (vs : List SV) (ls : List (List UInt8)) : Prop where
 row : SliceOf EBB w v vs
 len : vs.length = ls.length
 part : ∀ (k : Nat) (s : SV) (b : List UInt8), vs[k]? = some s → ls[k]? = some b → SliceOf EB w s.1 b ∧ ∀ p n c, s.1 = .slice p n c → n ≤ c
theorem slice_old {w : World} {v : Value} {b : List UInt8} {g : Nat} (h : SliceOf EB w v b) (hg : w.heap.size ≤ g) : b = [] ∨ v.ownBlock ≠ some g := by
 rcases h with ⟨_, _, _, hl⟩ | ⟨p, c, rfl, hp, _⟩
 ·exact .inl hl
 ·refine .inr fun e => ?_
  simp only [Value.ownBlock, Option.some.injEq] at e
  omega
theorem part_at {w : World} {v : Value} {vs : List SV} (h : SliceOf EBB w v vs) (k : Nat) (s : SV) (hk : vs[k]? = some s) :
  ∃ p : Addr, (∀ W, (Instr.indexAt 62 v (.int .i64 (k : Int))).run Tryz.prog W = .ok (.pointer (some p)) W) ∧ LoadsL Tryz.prog w 23 (some p) s.1 := by
 obtain ⟨p, h1, _, _, h4⟩ := h.at_ k s hk
 exact ⟨p, h1, h4⟩
theorem parts_len {w : World} {v : Value} {vs : List SV} (h : SliceOf EBB w v vs) (W : World) : (Builtin.len_ #[62] 3 #[v]).run Tryz.prog W = .ok (.int .i64 (vs.length : Int)) W := h.len W
theorem SpV.nil {g : Nat} {w : World} (hb : Blk w g 277 (spL Sha.first.list (List.replicate 64 0) 0)) : SpV g w [] := ⟨List.replicate 64 0, by simp, rfl, hb⟩
set_option maxRecDepth 100000 in
set_option maxHeartbeats 16000000 in
theorem hsum_any (v : Value) (vs : List SV) (ls : List (List UInt8)) (hlen : ls.flatten.length < 100000000) (hvn : vs.length ≤ 1048576) (w : World) (hp : PartsAt w v vs ls) : Calls Tryz.prog 123 #[v] w fun e w' => e = .returned (.agg (hC (digest ls.flatten))) ∧ Below w.heap.size w w' := by
 have HPT := Lib.hid hp
 have hlv := fun W => parts_len hp.row W
 have hvl := hp.len
 have HBLD := Lib.hid (fun W => (by kernel_rfl : (Instr.build 277 #[(0, .agg (wC Sha.first.list))]).run Tryz.prog W = .ok (.agg (spL Sha.first.list (List.replicate 64 0) 0)) W))
 clear hp
 go_enter Tryz.func123, Tryz.ntmps123
 go_wp2_with (first | (with_reducible refine wpList_zero rfl 164 rfl (hC (List.replicate 32 0)) sum_zeroE ?_; intro g2 w1 hb hx hg; have HA1 := Lib.hid hb; have HX1 := Lib.hid hx; have HG2 := Lib.hid hg; clear hb hx hg))
 refine (first_any w1).mono ?_
 rintro e w2 ⟨rfl, hx2⟩
 have HA2 := Lib.hid (HA1.out.below hx2)
 have HX2 := Lib.hid (belowThen HX1.out (Nat.le_refl _) hx2)
 clear hx2
 go_wp2_with (first | (with_reducible refine wpList_build1 277 0 _ rfl rfl (.agg (wC Sha.first.list)) rfl (.agg (spL Sha.first.list (List.replicate 64 0) 0)) HBLD.out ?_) | ((with_reducible refine wpList_box rfl 277 _ rfl (spL Sha.first.list (List.replicate 64 0) 0) rfl ?_); intro g w3 hb hx hg; have HS3 := Lib.hid (SpV.nil hb); have HA3 := Lib.hid (HA2.out.below hx); have HX3 := Lib.hid (belowThen HX2.out (Nat.le_refl _) hx); have HGG := Lib.hid hg; have HGW := Lib.hid (Nat.le_trans HX2.out.size hg); have HNG := Lib.hid (show g2 ≠ g from fun e => by have := HA2.out.lt; omega); clear hb hx hg))
 have HLS := Lib.hid (fun k => (show (ls.take k).flatten.length ≤ ls.flatten.length by
  have h := congrArg (fun q => (List.flatten q).length) (List.take_append_drop k ls)
  simp only [List.flatten_append, List.length_append] at h
  omega))
 go_loopw [11] (fun i wr => ∃ k : Nat, k ≤ vs.length ∧ i = .int .i64 (k : Int) ∧ SpV g wr (ls.take k).flatten ∧ Blk wr g2 164 (hC (List.replicate 32 0)) ∧ Only (· = g) w3 wr) (fun i _ => vs.length - (intOf i).toNat)
 case atStart => exact ⟨0, by omega, rfl, HS3.out, HA3.out, Only.refl _ _⟩
 case round =>
  obtain ⟨wr1, rfl⟩ : ∃ y : World, y = wr := ⟨_, rfl⟩
  obtain ⟨k, hk, rfl, hsp, hbk, ho⟩ := hrel
  have hw := HX3.out.trans (ho.below (B := w.heap.size) HX3.out.size (fun i hi => by subst hi; exact HGW.out))
  have HSP := Lib.hid hsp
  have HBK := Lib.hid hbk
  have HO := Lib.hid ho
  have HW := Lib.hid hw
  clear hsp hbk ho hw
  by_cases hlt : k < vs.length
  ·have hd1 : decide ((k : Int) < (vs.length : Int)) = true := by simp; omega
   obtain ⟨sv, hsv⟩ : ∃ y, vs[k]? = some y := ⟨_, List.getElem?_eq_getElem hlt⟩
   obtain ⟨b, hb⟩ : ∃ y, ls[k]? = some y := ⟨_, List.getElem?_eq_getElem (by omega)⟩
   obtain ⟨p, hadr, hld⟩ := part_at (SliceOf.below HPT.out.row HW.out) k sv hsv
   obtain ⟨hsl, hcap⟩ := HPT.out.part k sv b hsv hb
   have HTK := Lib.hid (show (ls.take (k + 1)).flatten = (ls.take k).flatten ++ b by rw [List.take_add_one, hb, List.flatten_append]; simp)
   have HLT := Lib.hid (show (ls.take k).flatten.length + b.length < 1000000000000 by have h := HLS.out (k + 1); rw [HTK.out, List.length_append] at h; omega)
   have HLD := Lib.hid hld
   have HSL := Lib.hid (SliceOf.below hsl HW.out)
   have HOLD := Lib.hid (slice_old hsl HGW.out)
   have HCAP := Lib.hid hcap
   clear hsv hb hld hsl hcap
   go_wp2_with (first | (with_reducible refine wpList_loadL HLD.out rfl _ rfl rfl ?_))
   refine (take_any g sv.1 (ls.take k).flatten b HLT.out wr1 HSP.out HSL.out HOLD.out HCAP.out).mono ?_
   rintro e w5 ⟨⟨r5, rfl⟩, hs5, ho5⟩
   have HS5 := Lib.hid hs5
   have HO5 := Lib.hid (HO.out.trans ho5 (fun _ _ h => h))
   have HA5 := Lib.hid (HBK.out.onlyP ho5 HNG.out)
   clear hs5 ho5
   go_wp2_with fail
   go_roundw
   case rel => exact ⟨k + 1, by omega, by go_num, by rw [HTK.out]; exact HS5.out, HA5.out, HO5.out⟩
   case measure => simp [intOf]; omega
  ·obtain rfl : k = vs.length := by omega
   have HSE := Lib.hid (show SpV g wr1 ls.flatten by have := HSP.out; rwa [List.take_of_length_le (by omega)] at this)
   obtain ⟨fl, hfl⟩ : ∃ q, ls.flatten = q := ⟨_, rfl⟩
   have HFL := Lib.hid hfl
   rw [hfl] at HSE hlen
   clear hfl
   go_wp2_with fail
   refine (end_any g fl (by omega) wr1 HSE.out).mono ?_
   rintro e w6 ⟨rfl, ho6⟩
   obtain ⟨dg, hdg⟩ : ∃ q, digest fl = q := ⟨_, rfl⟩
   have hdl : dg.length = 32 := by rw [← hdg]; exact digest_length fl
   have HDG := Lib.hid hdg
   have HA6 := Lib.hid (HBK.out.onlyP ho6 HNG.out)
   have HW6 := Lib.hid (HW.out.trans (ho6.below (B := w.heap.size) HW.out.size (fun i hi => by subst hi; exact HGW.out)))
   rw [hdg]
   clear ho6 hdg
   go_wp2_with (first | ((with_reducible refine wpList_put rfl rfl 164 _ _ rfl g2 (hC dg) (hC (List.replicate 32 0)) rfl rfl HA6.out (sum_info _ hdl) (by rw [hC_size, hC_size, hdl, List.length_replicate]) (hC_one1 _) ?_); intro w7 hb7 hx7 _ _; have HB7 := Lib.hid hb7; have HX7 := Lib.hid (HW6.out.trans (hx7.mono HG2.out)); clear hb7 hx7))
   exact post_row rfl rfl HB7.out Tryz.underlying164 rfl (sum_info _ hdl) rfl ⟨by rw [HFL.out, HDG.out], HX7.out⟩
end Go.Proofs.YtdebbmembkbniaaGreat
/-! hash.Fold: a digest folded. -/
namespace Go.Agg
open Go.RowKit
variable {P : Program} {o : Oper} {a : Act} {w : World} {t u : TypeId} {x y : Operand} {m n : Nat} {c d : UInt8}
theorem exec_remI (hn : 0 < n) (hm : m < 9223372036854775808) (ho : o.op = .binOp .rem t x y u) (hx : a.eval x = .int .i64 (m : Int)) (hy : a.eval y = .int .i64 (n : Int)) : (execOp a.eval o).run P w = .ok (.value (.int .i64 ((m % n : Nat) : Int))) w := by
 have hc : (binOp .rem t (.int .i64 (m : Int)) (.int .i64 (n : Int))).run P w = .ok (.int .i64 ((m % n : Nat) : Int)) w := by
  have hlt := Nat.mod_lt m hn
  have hle := Nat.mod_le m n
  have hne : ¬ (n : Int) = 0 := by omega
  have e : ((m : Int).tmod (n : Int)) = ((m % n : Nat) : Int) := by
   rw [Int.tmod_eq_emod_of_nonneg (by omega)]
   first | exact (Int.natCast_emod m n).symm | exact (Int.ofNat_emod m n).symm | (push_cast; rfl)
  simp only [binOp, Op.intDiv, if_neg hne]
  first
   | exact congrArg (fun n => Result.ok (Value.int .i64 n) w) (by rw [e]; exact wrap_i64N _ (by omega))
   | exact congrArg (fun n => Result.ok (Value.int .i64 n) w) e
   | simp [e, wrap_i64N _ (show m % n < 9223372036854775808 by omega), hne]
 simp only [execOp, ho, hx, hy]
 simp [eqGuard, hc]
theorem exec_xorB (ho : o.op = .binOp .xor t x y u) (hx : a.eval x = .int .u8 (c.toNat : Int)) (hy : a.eval y = .int .u8 (d.toNat : Int)) : (execOp a.eval o).run P w = .ok (.value (.int .u8 ((c ^^^ d).toNat : Int))) w := by
 have hc : (binOp .xor t (.int .u8 (c.toNat : Int)) (.int .u8 (d.toNat : Int))).run P w = .ok (.int .u8 ((c ^^^ d).toNat : Int)) w := by
  simp only [binOp, Op.intBits]
  refine congrArg (fun n => Result.ok (Value.int .u8 n) w) ?_
  have h1 := (c ^^^ d).toNat_lt
  have e1 : BitVec.ofInt IntKind.u8.bits (c.toNat : Int) = BitVec.ofNat 8 c.toNat := BitVec.ofInt_natCast _ _
  have e2 : BitVec.ofInt IntKind.u8.bits (d.toNat : Int) = BitVec.ofNat 8 d.toNat := BitVec.ofInt_natCast _ _
  have e3 : (BitVec.ofNat 8 c.toNat ^^^ BitVec.ofNat 8 d.toNat).toNat = (c ^^^ d).toNat := by
   have hc8 := c.toNat_lt
   have hd8 := d.toNat_lt
   rw [BitVec.toNat_xor, BitVec.toNat_ofNat, BitVec.toNat_ofNat, UInt8.toNat_xor, Nat.mod_eq_of_lt hc8, Nat.mod_eq_of_lt hd8]
  rw [e1, e2]
  show IntKind.u8.wrap (((BitVec.ofNat 8 c.toNat ^^^ BitVec.ofNat 8 d.toNat).toNat : Nat) : Int) = _
  rw [e3]
  simp only [IntKind.wrap, IntKind.signed, IntKind.bits, Bool.false_and, Bool.false_eq_true, if_false]
  omega
 simp only [execOp, ho, hx, hy]
 simp [eqGuard, hc]
end Go.Agg
namespace Go.Proofs.YtdebbmembkbniaaGreat
open Go.RowKit Pl Go.Agg Go.Sha
theorem hash_zero1 : (Tryz.prog.info? 43).map (·.zero) = some (some (.agg (hC (List.replicate 20 0)))) := by kernel_rfl
theorem hash_info1 (h : List UInt8) (hl : h.length = 20) : (Tryz.prog.info? 43).map (·.size) = some (hC h).size := by rw [hC_size, hl]; kernel_rfl
theorem hC_get1 (h : List UInt8) (i : Nat) (c : UInt8) (hc : h[i]? = some c) : (hC h)[i]? = some (.int .u8 (c.toNat : Int)) := by simp [hC, Lib.byteCells, hc]
set_option maxRecDepth 100000 in
set_option maxHeartbeats 16000000 in
theorem fold_any (s : List UInt8) (hs : s.length = 32) (w : World) : Calls Tryz.prog 122 #[.agg (hC s)] w fun e w' => e = .returned (.agg (hC (foldG s 32))) ∧ Below w.heap.size w w' := by
 go_enter Tryz.func122, Tryz.ntmps122
 go_wp2_with (first | (with_reducible refine wpList_box rfl 164 _ rfl (hC s) rfl ?_; intro g1 w1 hb hx hg; have HB1 := Lib.hid hb; have HX1 := Lib.hid hx; clear hb hx hg) | (with_reducible refine wpList_zero rfl 43 rfl (hC (List.replicate 20 0)) hash_zero1 ?_; intro g2 w2 hb hx hg; have HA2 := Lib.hid hb; have HX2 := Lib.hid (belowThen HX1.out (Nat.le_refl _) hx); have HG2 := Lib.hid (Nat.le_trans HX1.out.size hg); have HLD := Lib.hid ((HB1.out.below hx).loads (P := Tryz.prog) Tryz.underlying164 rfl (sum_info _ hs)); clear hb hx hg) | (with_reducible refine wpList_loadL HLD.out rfl _ rfl rfl ?_))
 go_loopw [6] (fun i wr => ∃ k : Nat, k ≤ 32 ∧ i = .int .i64 (k : Int) ∧ Blk wr g2 43 (hC (foldG s k)) ∧ Below w.heap.size w wr) (fun i _ => 32 - (intOf i).toNat)
 case atStart => exact ⟨0, by omega, rfl, HA2.out, HX2.out⟩
 case round =>
  obtain ⟨wr1, rfl⟩ : ∃ y : World, y = wr := ⟨_, rfl⟩
  obtain ⟨k, hk, rfl, hbk, hw⟩ := hrel
  by_cases hlt : k < 32
  ·have hd1 : decide ((k : Int) < 32) = true := by simp; omega
   obtain ⟨q, hq⟩ : ∃ q, k % 20 = q := ⟨_, rfl⟩
   have hq20 : q < 20 := by omega
   obtain ⟨c, hc⟩ : ∃ c, s[k]? = some c := ⟨_, List.getElem?_eq_getElem (by omega)⟩
   obtain ⟨d, hd⟩ : ∃ d, (foldG s k)[q]? = some d := ⟨_, List.getElem?_eq_getElem (by rw [foldG_length]; exact hq20)⟩
   have HIX := Lib.hid (fun W => run_index_agg (P := Tryz.prog) (t := 164) (e := 5) (n := 32) (cs := Lib.byteCells s) (k := .i64) (i := k) (v := .int .u8 (c.toNat : Int)) W Tryz.underlying164 (by kernel_rfl) (fun _ => by kernel_rfl) hlt (by simp [Lib.byteCells, hc]))
   have HRM := Lib.hid (fun (o : Oper) (a : Act) (x y : Operand) (t u : TypeId) (ho : o.op = .binOp .rem t x y u) (hx : a.eval x = .int .i64 (k : Int)) (hy : a.eval y = .int .i64 ((20 : Nat) : Int)) => (show (execOp a.eval o).run Tryz.prog wr1 = .ok (.value (.int .i64 (q : Int))) wr1 by have := exec_remI (P := Tryz.prog) (w := wr1) (m := k) (n := 20) (by decide) (by omega) ho hx hy; rwa [hq] at this))
   have hia : ∀ W, (Instr.indexAt 43 (.pointer (some ⟨g2, 0, none⟩)) (.int .i64 (q : Int))).run Tryz.prog W = .ok (.pointer (some ⟨g2, q, none⟩)) W := fun W => by have := run_idxArr (P := Tryz.prog) (t := 43) (e := 5) (w := W) Tryz.underlying43 (by kernel_rfl) g2 0 q hq20; rwa [Nat.zero_add] at this
   have HLB := Lib.hid (hbk.one (P := Tryz.prog) q (hC_get1 _ _ _ hd) Tryz.underlying5 rfl)
   obtain ⟨w3, hrs, hb3, ho3⟩ := Blk.run_one (P := Tryz.prog) (ty := 5) hbk q (by rw [hC_size, foldG_length]; exact hq20) (.int .u8 ((d ^^^ c).toNat : Int)) rfl rfl (by kernel_rfl) (hC (foldG s (k + 1))) (by rw [hC_setE, foldG, hq]; simp [List.getD, hc, hd])
   have HRS := Lib.hid hrs
   have HB3 := Lib.hid hb3
   have HW3 := Lib.hid (hw.trans (ho3.below (B := w.heap.size) hw.size (fun i hi => by subst hi; exact HG2.out)))
   clear hc hd hq hbk hw hrs hb3 ho3
   go_wp2_with (first | (refine wpList_valw rfl (exec_index rfl rfl rfl (HIX.out _)) ?_) | (refine wpList_valw rfl (HRM.out _ _ _ _ _ _ rfl rfl rfl) ?_) | (with_reducible refine wpList_loadL HLB.out rfl _ rfl rfl ?_) | (refine wpList_valw rfl (exec_xorB (c := d) (d := c) rfl rfl rfl) ?_) | (refine wpList_store rfl rfl 5 _ _ rfl (.pointer (some ⟨g2, q, none⟩)) (.int .u8 ((d ^^^ c).toNat : Int)) rfl rfl HRS.out ?_))
   go_roundw
   case rel => exact ⟨k + 1, by omega, by go_num, HB3.out, HW3.out⟩
   case measure => simp [intOf]; omega
  ·obtain rfl : k = 32 := by omega
   have HB5 := Lib.hid hbk
   have HW := Lib.hid hw
   have HLD5 := Lib.hid (hbk.loads (P := Tryz.prog) Tryz.underlying43 rfl (hash_info1 _ (foldG_length _ _)))
   obtain ⟨fs, hfs⟩ : ∃ q, foldG s 32 = q := ⟨_, rfl⟩
   have hfl : fs.length = 20 := by rw [← hfs]; exact foldG_length _ _
   rw [hfs] at HB5 HLD5
   have HFS := Lib.hid hfs
   clear hbk hw hfs
   go_wp2_with (first | (with_reducible refine wpList_loadL HLD5.out rfl _ rfl rfl ?_) | ((with_reducible refine wpList_put rfl rfl 43 _ _ rfl g2 (hC fs) (hC fs) rfl rfl HB5.out (hash_info1 _ hfl) rfl (hC_one1 _) ?_); intro w7 hb7 hx7 _ _; have HB7 := Lib.hid hb7; have HX7 := Lib.hid (HW.out.trans (hx7.mono HG2.out)); clear hb7 hx7))
   exact post_row rfl rfl HB7.out Tryz.underlying43 rfl (hash_info1 _ hfl) rfl ⟨by rw [HFS.out], HX7.out⟩
end Go.Proofs.YtdebbmembkbniaaGreat
/-! hash.length: a number's bytes. -/
namespace Go.Proofs.YtdebbmembkbniaaGreat
open Go.RowKit Pl Go.Agg
set_option maxRecDepth 100000 in
set_option maxHeartbeats 8000000 in
theorem hlength_any (n : Nat) (hn : n ≤ 1099511627776) (w : World) : Calls Tryz.prog 121 #[.int .i64 (n : Int)] w fun e w' => ∃ v', e = .returned v' ∧ Own EB w.heap.size w' v' (encN n) ∧ Below w.heap.size w w' := by
 have HEL := Lib.hid (encN_len hn)
 go_enter Tryz.func121, Tryz.ntmps121
 go_wp2_with (first | (with_reducible refine wpList_zero rfl 85 rfl (mkC (.slice none 0 0)) (by kernel_rfl) ?_; intro g6 w1 hb hx hg; have HM1 := Lib.hid (⟨hb, Own.nil _ _ _⟩ : MkV g6 w1 (.slice none 0 0) []); have HX1 := Lib.hid hx; have HG1 := Lib.hid hg; clear hb hx hg) | (refine wpList_slice1 (E := EI) (base := w1.heap.size) rfl _ rfl n rfl (Nat.le_refl _) ?_; intro xs w2 hxs hx; have HXS := Lib.hid (Off.behind (w0 := w1) hxs.slice (fun k hk => (hxs.block k hk).1) HM1.out.blk.lt HM1.out.lt); have HM2 := Lib.hid (HM1.out.below hx); have HX2 := Lib.hid (belowThen HX1.out (Nat.le_refl _) hx); clear hxs hx))
 refine (num_any g6 _ xs [n] [] w2 (by intro m hm; simp only [List.mem_cons, List.not_mem_nil, or_false] at hm; omega) (by simp) (by simp) HXS.out HM2.out).mono ?_
 rintro e w3 ⟨rfl, v3, hm3, hs3⟩
 have HM3 := Lib.hid hm3
 have HX3 := Lib.hid (HX2.out.trans ((HM2.out.stepBelow hs3).mono HG1.out))
 clear hm3 hs3
 go_wp2_with fail
 refine (done_any g6 _ _ w3 (by have := HEL.out; simp; omega) HM3.out).mono ?_
 rintro e w4 ⟨v4, rfl, ho4, hx4⟩
 have HO4 := Lib.hid (ho4.lower HX3.out.size)
 have HX4 := Lib.hid (belowThen HX3.out (Nat.le_refl _) hx4)
 clear ho4 hx4
 go_wp2_with fail
 go_ret
 exact ⟨_, rfl, by simpa using HO4.out, HX4.out⟩
end Go.Proofs.YtdebbmembkbniaaGreat
