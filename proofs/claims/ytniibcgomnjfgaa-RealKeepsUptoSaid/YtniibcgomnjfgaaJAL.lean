/- code.Maker: numbers and texts as bytes. (Several texts in one.) -/
import Derived.Test.YtniibcgomnjfgaaJAK
import Derived.Test.YtniibcgomnjfgaaJAC
import Derived.Lib.Bytealg
import Derived.Test.YtniibcgomnjfgaaJAE
import Derived.Test.YtniibcgomnjfgaaJAG
/-! real.of and how two places stand. -/
namespace Go.Proofs.Ytniibcgomnjfgaa
open Go.RowKit Pl Go.Agg
open Go.Lib (compareBytes)
/-- ints as elements -/
def EZ : Elem Try.prog Int where
  ty := 3
  st := 92
  n := 1
  bytes := 8
  val := fun c => .int .i64 c
  zero := .int .i64 0
  pos := by omega
  small := by omega
  size := fun x => rfl
  one := fun x v hv => by
    obtain rfl : v = .int .i64 x := by simpa [Value.cells] using hv
    rfl
  zsize := rfl
  slice := by kernel_rfl
  info := info_of (by kernel_rfl) (by kernel_rfl) (by kernel_rfl)
  load := fun w a x hp h => LoadsL.of_cell (by have := h 0 _ rfl; rwa [show a.add 0 = a from rfl] at this) Try.underlying3 rfl
theorem ints_lenZ {w : World} {v : Value} {l : List Int} (h : SliceOf EZ w v l) (W : World) : (Builtin.len_ #[92] 3 #[v]).run Try.prog W = .ok (.int .i64 (l.length : Int)) W := h.len W
theorem wpList_ints3 {ops : Array Oper} {rest : List Oper} {o : Oper} {a : Act} {w : World} {Q : Exit → Act → World → Prop} (hg : o.guard = none) (x y z : Operand) (ho : o.op = .buildSlice 92 3 #[(0, x), (1, y), (2, z)]) (p q r : Int) (hx : a.eval x = .int .i64 p) (hy : a.eval y = .int .i64 q) (hz : a.eval z = .int .i64 r)
    (h : ∀ v' w', SliceOf EZ w' v' [p, q, r] → Below w.heap.size w w' → wpList Try.prog ops Q rest (a.put o.dst v') w') : wpList Try.prog ops Q (o :: rest) a w := by
  have hb : (Instr.buildSlice 92 3 #[(0, .int .i64 p), (1, .int .i64 q), (2, .int .i64 r)]).run Try.prog w = .ok (.slice (some ⟨w.heap.size, 0, none⟩) 3 3) (w.alloc (.cells #[.int .i64 p, .int .i64 q, .int .i64 r] 3)) := by kernel_rfl
  have hB := Blk.new w 3 #[.int .i64 p, .int .i64 q, .int .i64 r]
  refine wpList_val hg (v := .slice (some ⟨w.heap.size, 0, none⟩) 3 3) (w' := w.alloc (.cells #[.int .i64 p, .int .i64 q, .int .i64 r] 3)) (by simp [execOp, ho, hx, hy, hz, hb]) (h _ _ (.inr ⟨_, 3, rfl, hB.lt, fun j u hj => ?_⟩) ((Below.refl _ _).alloc (Nat.le_refl _) _))
  have e : EZ.flat [p, q, r] = (#[.int .i64 p, .int .i64 q, .int .i64 r] : Array Value).toList := rfl
  rw [e] at hj
  rw [add_plain, Nat.zero_add, hB.cell, ← Array.getElem?_toList]; exact hj
def orL : List Int → Int | [] => 0 | a :: l => if a = 0 then orL l else a
theorem orL_zero : ∀ (l : List Int) (k : Nat), (∀ j, j < k → l[j]? = some 0) → orL l = orL (l.drop k)
  | _, 0, _ => rfl
  | [], k + 1, _ => rfl
  | a :: l, k + 1, h => by
    have h0 := h 0 (by omega)
    obtain rfl : a = 0 := by simpa using h0
    simp only [orL, if_true, List.drop_succ_cons]
    exact orL_zero l k fun j hj => by simpa using h (j + 1) (by omega)
theorem orL_three (a b c : Int) : orL [a, b, c] = or3 a b c := by
  unfold or3 orL orL orL orL
  by_cases ha : a = 0 <;> by_cases hb : b = 0 <;> by_cases hc : c = 0 <;> simp [ha, hb, hc]
set_option maxRecDepth 100000 in
set_option maxHeartbeats 1000000 in
theorem orInt_any (v : Value) (l : List Int) (w : World) (hn : l.length ≤ 1048576) (hs : SliceOf EZ w v l) :
    Calls Try.prog 41 #[v] w fun e w' => e = .returned (.int .i64 (orL l)) ∧ Below w.heap.size w w' := by
  have HS := Lib.hid hs
  have hlv := fun W => ints_lenZ hs W
  clear hs
  go_enter Try.func41, Try.ntmps41
  go_wp2_with fail
  go_loopw [8] (fun i wr => ∃ k : Nat, k ≤ l.length ∧ i = .int .i64 k ∧ (∀ j, j < k → l[j]? = some 0) ∧ Below w.heap.size w wr) (fun i _ => l.length - (intOf i).toNat)
  case atStart => exact ⟨0, by omega, rfl, fun j hj => absurd hj (by omega), Below.refl _ _⟩
  case round =>
    obtain ⟨wr1, rfl⟩ : ∃ y : World, y = wr := ⟨_, rfl⟩
    obtain ⟨k, hk, rfl, hz, hw⟩ := hrel
    have HZ := Lib.hid hz
    have HW := Lib.hid hw
    clear hz hw
    by_cases hlt : k < l.length
    · have hd : decide ((k : Int) < (l.length : Int)) = true := by simp; omega
      obtain ⟨m, hmk⟩ : ∃ m, l[k]? = some m := ⟨_, List.getElem?_eq_getElem hlt⟩
      obtain ⟨q, hadr, _, _, hq⟩ := (HS.out.below HW.out).at_ k m hmk
      have hadr : ∀ W, (Instr.indexAt 92 v (.int .i64 (k : Int))).run Try.prog W = .ok (.pointer (some q)) W := hadr
      have HQ := Lib.hid (show LoadsL Try.prog wr1 3 (some q) (.int .i64 m) from hq)
      have HK := Lib.hid hmk
      clear hq hmk
      by_cases hm : m = 0
      · subst hm
        go_wp2_with (first | (with_reducible refine wpList_loadL HQ.out rfl _ rfl rfl ?_))
        go_roundw
        case rel =>
          refine ⟨k + 1, by omega, by go_num, fun j hj => ?_, HW.out⟩
          by_cases e : j = k
          · subst e; exact HK.out
          · exact HZ.out j (by omega)
        case measure => simp [intOf]; omega
      · have hb : (m != 0) = true := by simp [hm]
        go_wp2_with (first | (with_reducible refine wpList_loadL HQ.out rfl _ rfl rfl ?_))
        go_ret
        refine ⟨?_, HW.out⟩
        rw [orL_zero l k HZ.out, List.drop_eq_getElem_cons hlt]
        have : l[k] = m := by have := HK.out; rw [List.getElem?_eq_getElem hlt] at this; exact Option.some.inj this
        simp [orL, this, hm]
    · obtain rfl : k = l.length := by omega
      go_wp2_with fail
      go_ret
      refine ⟨?_, HW.out⟩
      rw [orL_zero l l.length HZ.out]
      simp [orL]
theorem isNaNI_any (s : Int) (w : World) : Calls Try.prog 55 #[.int .i64 s] w fun e w' => e = .returned (.bool false) ∧ w = w' := by
  go_enter Try.func55, Try.ntmps55
  go_wp2
  all_goals go_ret
  all_goals simp
theorem cmpInt_any (a b : Int) (w : World) : Calls Try.prog 43 #[.int .i64 a, .int .i64 b] w fun e w' => e = .returned (.int .i64 (cmpI a b)) ∧ w = w' := by
  go_enter Try.func43, Try.ntmps43
  go_wp2_with fail
  refine (isNaNI_any a _).mono ?_
  rintro e w1 ⟨rfl, rfl⟩
  go_wp2_with fail
  refine (isNaNI_any b _).mono ?_
  rintro e w1 ⟨rfl, rfl⟩
  by_cases h1 : a < b
  · have h1d := decide_eq_true h1
    go_wp2_with fail
    go_ret
    exact ⟨by simp [cmpI, h1], rfl⟩
  · by_cases h2 : b < a
    · have h1d := decide_eq_false h1
      have h2d := decide_eq_true h2
      go_wp2_with fail
      go_ret
      exact ⟨by simp [cmpI, h1, h2], rfl⟩
    · have h1d := decide_eq_false h1
      have h2d := decide_eq_false h2
      go_wp2_with fail
      go_ret
      exact ⟨by unfold cmpI; rw [if_neg (by omega), if_neg (by omega)]; rfl, rfl⟩
/-- a place's cells -/
def plC (p : Pla) : Array Value := hC p.1.1 ++ (hC p.2.1.1 ++ #[.int .i64 p.2.2])
theorem plC_size (p : Pla) : (plC p).size = 41 := by simp [plC, hC_size, p.1.2, p.2.1.2]
theorem plC_one (p : Pla) : (plC p).all (·.oneCell') = true := by rw [plC, Array.all_append, Array.all_append, hC_one, hC_one]; simp [Value.oneCell']
theorem plC_cl (p : Pla) (j : Nat) (v : Value) (h : (hC p.1.1)[j]? = some v) : (plC p)[0 + j]? = some v := by
  have := (Array.getElem?_eq_some_iff.1 h).1
  rw [plC, Nat.zero_add, Array.getElem?_append_left this]; exact h
theorem plC_ky (p : Pla) (j : Nat) (v : Value) (h : (hC p.2.1.1)[j]? = some v) : (plC p)[20 + j]? = some v := by
  have := (Array.getElem?_eq_some_iff.1 h).1
  rw [plC, Array.getElem?_append_right (by rw [hC_size, p.1.2]; omega), hC_size, p.1.2, show 20 + j - 20 = j by omega, Array.getElem?_append_left this]; exact h
theorem plC_by (p : Pla) : (plC p)[40]? = some (.int .i64 p.2.2) := by
  rw [plC, Array.getElem?_append_right (by rw [hC_size, p.1.2]; omega), hC_size, p.1.2, Array.getElem?_append_right (by rw [hC_size, p.2.1.2]; omega), hC_size, p.2.1.2]; rfl
def zPl : Pla := (⟨z20, rfl⟩, ⟨z20, rfl⟩, 0)
theorem plC_zero : (Try.prog.info? 59).map (·.zero) = some (some (.agg (plC zPl))) := by kernel_rfl
theorem plC_info (p : Pla) : (Try.prog.info? 59).map (·.size) = some (plC p).size := by rw [plC_size]; kernel_rfl
theorem plC_under : Try.prog.underlying 59 = some (.struct (Try.prog.fieldsOf 59)) := by kernel_rfl
theorem plBuilt : ∀ parts, Try.prog.built 59 parts = Instr.fill (#[(0, 20), (20, 20), (40, 1)][·]?) (plC zPl) parts := fun _ => by kernel_rfl
theorem build_place (p : Pla) (w : World) : (Instr.build 59 #[(0, .agg (hC p.1.1)), (1, .agg (hC p.2.1.1)), (2, .int .i64 p.2.2)]).run Try.prog w = .ok (.agg (plC p)) w := by
  have h1 : (hC p.1.1).size = 20 := by rw [hC_size, p.1.2]
  have h2 : (hC p.2.1.1).size = 20 := by rw [hC_size, p.2.1.2]
  have hz : (plC zPl).size = 41 := plC_size _
  have hs1 : (Go.Agg.splice (plC zPl) 0 (hC p.1.1)).size = 41 := by rw [Go.Agg.splice_size _ _ _ (by omega), hz]
  have hs2 : (Go.Agg.splice (Go.Agg.splice (plC zPl) 0 (hC p.1.1)) 20 (hC p.2.1.1)).size = 41 := by rw [Go.Agg.splice_size _ _ _ (by omega), hs1]
  refine run_build w _ _ _ ?_
  rw [plBuilt]
  rw [fill_cons (off := 0) (size := 20) rfl (by simp only [Value.cells]; exact h1) (by omega)]
  rw [fill_cons (off := 20) (size := 20) rfl (by simp only [Value.cells]; exact h2) (by simp only [Value.cells]; omega)]
  rw [fill_cons (off := 40) (size := 1) rfl rfl (by simp only [Value.cells]; omega)]
  rw [fill_nil]
  refine congrArg some ?_
  clear hs1 hs2
  simp only [Value.cells]
  generalize plC zPl = Z at *
  apply Array.ext'
  have l1 : (hC p.1.1).toList.length = 20 := by rw [Array.length_toList]; exact h1
  have l2 : (hC p.2.1.1).toList.length = 20 := by rw [Array.length_toList]; exact h2
  have l3 : Z.toList.length = 41 := by rw [Array.length_toList]; exact hz
  simp [Go.Agg.splice, plC, List.take_append, List.drop_append, h1, h2, l1, l2, l3, List.take_of_length_le, List.drop_eq_nil_of_le]
/-- what lies in a box with a place -/
structure PlG (w : World) (b : Nat) (p : Pla) : Prop where
  blk : Blk w b 59 (plC p)
  all : LoadsL Try.prog w 59 (some ⟨b, 0, none⟩) (.agg (plC p))
  by_ : LoadsL Try.prog w 3 (some ⟨b, 40, none⟩) (.int .i64 p.2.2)
theorem PlG.of_blk {w : World} {b : Nat} {p : Pla} (h : Blk w b 59 (plC p)) : PlG w b p where
  blk := h
  all := h.loads plC_under rfl (plC_info p)
  by_ := h.one 40 (plC_by p) Try.underlying3 rfl
theorem PlG.below {w w' : World} {b : Nat} {p : Pla} (h : PlG w b p) (hb : Below w.heap.size w w') : PlG w' b p := ⟨h.blk.below hb, h.all.below hb, h.by_.below hb⟩
theorem hC_byte (h : List UInt8) (j : Nat) (x : UInt8) (hj : h[j]? = some x) : (hC h)[j]? = some (.int .u8 (x.toNat : Int)) := by
  have hlt := (List.getElem?_eq_some_iff.1 hj).1
  rw [hC_get h j hlt]; rw [List.getElem?_eq_getElem hlt] at hj; rw [Option.some.inj hj]
theorem PlG.byteC {w : World} {b : Nat} {p : Pla} (h : PlG w b p) (j : Nat) (x : UInt8) (hj : p.1.1[j]? = some x) : w.cell? ⟨b, 0 + j, none⟩ = some (.int .u8 (x.toNat : Int)) := by rw [h.blk.cell]; exact plC_cl p j _ (hC_byte _ j x hj)
theorem PlG.byteK {w : World} {b : Nat} {p : Pla} (h : PlG w b p) (j : Nat) (x : UInt8) (hj : p.2.1.1[j]? = some x) : w.cell? ⟨b, 20 + j, none⟩ = some (.int .u8 (x.toNat : Int)) := by rw [h.blk.cell]; exact plC_ky p j _ (hC_byte _ j x hj)
theorem slice_hash0 (g : Nat) (w : World) : (Instr.sliceAt 30 (.pointer (some ⟨g, 0, none⟩)) none none none).run Try.prog w = .ok (.slice (some ⟨g, 0, none⟩) 20 20) w := by kernel_rfl
theorem slice_hash20 (g : Nat) (w : World) : (Instr.sliceAt 30 (.pointer (some ⟨g, 20, none⟩)) none none none).run Try.prog w = .ok (.slice (some ⟨g, 20, none⟩) 20 20) w := by kernel_rfl
theorem hash_cmp {w : World} (a b : H20) (g off g' off' : Nat) (ha : ∀ j x, a.1[j]? = some x → w.cell? ⟨g, off + j, none⟩ = some (.int .u8 (x.toNat : Int))) (hb : ∀ j x, b.1[j]? = some x → w.cell? ⟨g', off' + j, none⟩ = some (.int .u8 (x.toNat : Int))) :
    Calls Try.prog 42 #[.slice (some ⟨g, off, none⟩) 20 20, .slice (some ⟨g', off', none⟩) 20 20] w fun e w' => e = .returned (.int .i64 (compareBytes a.1 b.1)) ∧ w = w' := by
  have := bytesCompare_any w a.1 b.1 g off g' off' 20 20 ha hb
  rwa [a.2, b.2] at this
set_option maxRecDepth 100000 in
set_option maxHeartbeats 4000000 in
theorem against_any (p q : Pla) (w : World) :
    Calls Try.prog 23 #[.agg (plC p), .agg (plC q)] w fun e w' => e = .returned (.int .i64 (cmpPl p q)) ∧ Below w.heap.size w w' := by
  go_enter Try.func23, Try.ntmps23
  go_wp2_with (first | (with_reducible refine wpList_box rfl 59 _ rfl (plC p) rfl ?_; intro g1 w1 hb1 hx1 hg1; have HP1 := Lib.hid (PlG.of_blk hb1); have HX1 := Lib.hid hx1; clear hb1 hx1 hg1) | (with_reducible refine wpList_box rfl 59 _ rfl (plC q) rfl ?_; intro g2 w2 hb2 hx2 hg2; have HQ2 := Lib.hid (PlG.of_blk hb2); have HP2 := Lib.hid (HP1.out.below hx2); have HX2 := Lib.hid (Agg.belowThen HX1.out (Nat.le_refl _) hx2); clear hb2 hx2 hg2))
  have hs0 := slice_hash0
  have hs20 := slice_hash20
  have HC := Lib.hid (fun x : Later w2 => hash_cmp p.1 q.1 g1 0 g2 0 (HP2.out.below x.h).byteC (HQ2.out.below x.h).byteC)
  have HK := Lib.hid (fun x : Later w2 => hash_cmp p.2.1 q.2.1 g1 20 g2 20 (HP2.out.below x.h).byteK (HQ2.out.below x.h).byteK)
  try simp only [List.append_eq, List.cons_append, List.nil_append]
  try simp only [Act.put, List.setIfInBounds_toArray, List.set_cons_succ, List.set_cons_zero]
  refine Agg.wp_region_row 15 (fun w' => ∃ x : Later w2, w' = x.w) (by kernel_rfl) (by kernel_rfl) ⟨⟨_, (Below.refl _ _).drew⟩, rfl⟩ ?_
  simp only [List.take_succ_cons, List.take_zero, List.drop_succ_cons, List.drop_zero]
  repeat (first | go_big_quiet_skip | ((first | (with_reducible refine Agg.wpQuiet_loadL HP2.out.by_ rfl _ rfl rfl ?_) | (with_reducible refine Agg.wpQuiet_loadL HQ2.out.by_ rfl _ rfl rfl ?_)); simp only [Act.put, List.setIfInBounds_toArray, List.set_cons_succ, List.set_cons_zero]) | go_big_quiet_step ((first | (go_at_call 42; exact Agg.Calls.later_same (HC.out _)) | (go_at_call 42; exact Agg.Calls.later_same (HK.out _)) | (go_at_call 43; exact Agg.Calls.later_same (cmpInt_any _ _ _)))))
  refine wpQuiet_nil ?_
  intro _ hw'
  obtain ⟨x1, rfl⟩ := hw'
  go_wp2_with (first | (refine wpList_ints3 rfl _ _ _ rfl _ _ _ rfl rfl rfl ?_; intro v8 w8 hs8 hx8; have HS8 := Lib.hid hs8; have HX8 := Lib.hid (Agg.belowThen (Agg.belowThen HX2.out (Nat.le_refl _) x1.h) (Nat.le_refl _) hx8); clear hs8 hx8))
  refine (orInt_any _ _ _ (by simp) HS8.out).mono ?_
  rintro e w9 ⟨rfl, hx9⟩
  go_wp2_with fail
  go_ret
  exact ⟨by rw [orL_three]; rfl, Agg.belowThen HX8.out (Nat.le_refl _) hx9⟩
set_option maxRecDepth 100000 in
set_option maxHeartbeats 4000000 in
theorem of_any (x : BuV) (w : World) :
    Calls Try.prog 22 #[.agg (bC x)] w fun e w' => e = .returned (.agg (plC (plOf x.1))) ∧ Below w.heap.size w w' := by
  go_enter Try.func22, Try.ntmps22
  go_wp2_with (first | (with_reducible refine wpList_box rfl 35 _ rfl (bC x) rfl ?_; intro g1 w1 hb1 hx1 hg1; have HL1 := Lib.hid (BuG.of_blk hb1); have HX1 := Lib.hid hx1; clear hb1 hx1 hg1) | (with_reducible refine wpList_zero rfl 59 rfl (plC zPl) plC_zero ?_; intro g2 w2 hb2 hx2 hg2; have HB2 := Lib.hid hb2; have HL2 := Lib.hid (HL1.out.below hx2); have HX2 := Lib.hid (Agg.belowThen HX1.out (Nat.le_refl _) hx2); have HG2 := Lib.hid (Nat.le_trans HX1.out.size hg2); clear hb2 hx2 hg2) | (with_reducible refine wpList_loadL HL2.out.cls rfl _ rfl rfl ?_) | (with_reducible refine wpList_loadL HL2.out.key rfl _ rfl rfl ?_) | (with_reducible refine wpList_loadL HL2.out.by_ rfl _ rfl rfl ?_) | (with_reducible refine Agg.wpList_build rfl 59 _ rfl (.agg (plC (x.1.cl, x.1.ky, x.1.by_))) #[(0, .agg (hC x.1.cl.1)), (1, .agg (hC x.1.ky.1)), (2, .int .i64 x.1.by_)] (by kernel_rfl) (build_place (x.1.cl, x.1.ky, x.1.by_) _) ?_) | (with_reducible refine wpList_put rfl rfl 59 _ _ rfl g2 (plC (x.1.cl, x.1.ky, x.1.by_)) (plC zPl) rfl rfl HB2.out (plC_info _) (by rw [plC_size, plC_size]) (plC_one _) ?_; intro w3 hb3 hx3 hs3 _; have HB3 := Lib.hid hb3; have HX3 := Lib.hid (HX2.out.trans (hx3.mono HG2.out)); clear hb3 hx3 hs3))
  exact post_row rfl rfl HB3.out plC_under rfl (plC_info _) rfl ⟨rfl, HX3.out⟩
end Go.Proofs.Ytniibcgomnjfgaa
/-! real.Map of any builts. -/
namespace Go.Proofs.Ytniibcgomnjfgaa
open Go.RowKit Pl Go.Agg
/-- a map up to a place -/
def MapU (l : List BuV) (k : Nat) : Prop := ∀ (i : Nat) x, i < k → l[i]? = some x → rightBu x.1 = true ∧ ∀ (j : Nat) y, i = j + 1 → l[j]? = some y → ltPl (plOf y.1) (plOf x.1) = true
theorem mapU_all (l : List BuV) : MapU l l.length ↔ Gr.MapP plOf ltPl rightBu (l.map (·.1)) := by
  constructor
  · intro h i x hx
    rw [List.getElem?_map] at hx
    cases hl : l[i]? with
    | none => rw [hl] at hx; cases hx
    | some u =>
      rw [hl] at hx
      obtain rfl : u.1 = x := by simpa using hx
      have hi := (List.getElem?_eq_some_iff.1 hl).1
      refine ⟨(h i u hi hl).1, fun j y hij hy => ?_⟩
      rw [List.getElem?_map] at hy
      cases hl2 : l[j]? with
      | none => rw [hl2] at hy; cases hy
      | some z =>
        rw [hl2] at hy
        obtain rfl : z.1 = y := by simpa using hy
        exact (h i u hi hl).2 j z hij hl2
  · intro h i x _ hx
    have h1 := h i x.1 (by rw [List.getElem?_map, hx]; rfl)
    exact ⟨h1.1, fun j y hij hy => h1.2 j y.1 hij (by rw [List.getElem?_map, hy]; rfl)⟩
theorem mapU_zero (l : List BuV) : MapU l 0 := fun i _ hi => absurd hi (by omega)
theorem mapU_succ {l : List BuV} {k : Nat} {x : BuV} (h : MapU l k) (hx : l[k]? = some x) (hr : rightBu x.1 = true) (hl : ∀ (j : Nat) y, k = j + 1 → l[j]? = some y → ltPl (plOf y.1) (plOf x.1) = true) : MapU l (k + 1) := by
  intro i y hi hy
  by_cases e : i = k
  · subst e
    rw [hx] at hy
    obtain rfl := Option.some.inj hy
    exact ⟨hr, hl⟩
  · exact h i y (by omega) hy
theorem mapU_not {l : List BuV} {k : Nat} {x : BuV} (hx : l[k]? = some x) (hno : rightBu x.1 = false ∨ ∃ (j : Nat) (y : BuV), k = j + 1 ∧ l[j]? = some y ∧ ltPl (plOf y.1) (plOf x.1) = false) : (false = true ↔ Gr.MapP plOf ltPl rightBu (l.map (·.1))) := by
  constructor
  · intro h; cases h
  · intro h
    rw [← mapU_all] at h
    have h1 := h k x (List.getElem?_eq_some_iff.1 hx).1 hx
    rcases hno with hn | ⟨j, y, e1, e2, e3⟩
    · rw [h1.1] at hn; cases hn
    · rw [h1.2 j y e1 e2] at e3; cases e3
set_option maxRecDepth 100000 in
set_option maxHeartbeats 8000000 in
theorem buMap_any (v : Value) (l : List BuV) (hn : l.length ≤ 1048576) (w : World) (hs : BusAt w v l) :
    Calls Try.prog 8 #[v] w fun e w' => ∃ b, e = .returned (.bool b) ∧ (b = true ↔ Gr.MapP plOf ltPl rightBu (l.map (·.1))) ∧ Below w.heap.size w w' := by
  have HS := Lib.hid hs
  have hlv := fun W => bus_len hs W
  clear hs
  go_enter Try.func8, Try.ntmps8
  go_wp2_with fail
  go_loopw [7] (fun i wr => ∃ k : Nat, k ≤ l.length ∧ i = .int .i64 k ∧ MapU l k ∧ Below w.heap.size w wr) (fun i _ => l.length - (intOf i).toNat)
  case atStart => exact ⟨0, by omega, rfl, mapU_zero l, Below.refl _ _⟩
  case round =>
    obtain ⟨wr1, rfl⟩ : ∃ y : World, y = wr := ⟨_, rfl⟩
    obtain ⟨k, hk, rfl, hm, hw⟩ := hrel
    have HM := Lib.hid hm
    have HW := Lib.hid hw
    clear hm hw
    by_cases hlt : k < l.length
    · have hd : decide ((k : Int) < (l.length : Int)) = true := by simp; omega
      obtain ⟨x, hxk⟩ : ∃ x, l[k]? = some x := ⟨_, List.getElem?_eq_getElem hlt⟩
      obtain ⟨q, hadr, hq, hin⟩ := (HS.out.below HW.out).at_ k x hxk
      have HQ := Lib.hid hq
      have HX := Lib.hid hxk
      have HI := Lib.hid hin
      clear hq hxk hin
      go_wp2_with (first | (with_reducible refine wpList_loadL HQ.out.all rfl _ rfl rfl ?_) | (with_reducible refine wpList_zero rfl 35 rfl (bC (zB, none, 0, 0)) bC_zero ?_; intro g2 w2 hb2 hx2 hg2; have HB2 := Lib.hid hb2; have HX2 := Lib.hid hx2; have HG2 := Lib.hid hg2; clear hb2 hx2 hg2) | (with_reducible refine wpList_put rfl rfl 35 _ _ rfl g2 (bC x) (bC (zB, none, 0, 0)) rfl rfl HB2.out (bC_info _) (by rw [bC_size, bC_size]) (bC_one _) ?_; intro w3 hb3 hx3 hs3 _; have HL3 := Lib.hid (BuG.of_blk hb3); have HX3 := Lib.hid (HX2.out.trans (hx3.mono HG2.out)); clear hb3 hx3 hs3))
      have HW3 := Lib.hid (Agg.belowThen HW.out (Nat.le_refl _) HX3.out)
      have HI3 := Lib.hid (HI.out.below HX3.out)
      have HS3 := Lib.hid (HS.out.below HW3.out)
      cases hr : rightBu x.1 with
      | false =>
        have HR := Lib.hid (fun y : Later w3 => (show Calls Try.prog 9 #[.agg (bC x)] y.w fun e w' => e = .returned (.bool false) ∧ Below y.w.heap.size y.w w' by have := buRight_any x y.w (HI3.out.below y.h); rwa [hr] at this))
        have HNO := Lib.hid (mapU_not HX.out (.inl hr))
        clear hr
        try simp only [Act.put, List.setIfInBounds_toArray, List.set_cons_succ, List.set_cons_zero]
        refine Agg.wp_region_later_lit (by kernel_rfl) (by kernel_rfl) ?_
        repeat (first | go_big_quiet_skip | ((first | (with_reducible refine Agg.wpQuiet_loadL HL3.out.all rfl _ rfl rfl ?_)); simp only [Act.put, List.setIfInBounds_toArray, List.set_cons_succ, List.set_cons_zero]) | go_big_quiet_step ((first | (go_at_call 9; exact Agg.Calls.later (HR.out _)))))
        refine wpQuiet_nil ?_
        intro _ hw'
        obtain ⟨x4, rfl⟩ := hw'
        go_wp2_with fail
        go_ret
        exact ⟨false, rfl, HNO.out, Agg.belowThen HW3.out (Nat.le_refl _) x4.h⟩
      | true =>
        have HR := Lib.hid (fun y : Later w3 => (show Calls Try.prog 9 #[.agg (bC x)] y.w fun e w' => e = .returned (.bool true) ∧ Below y.w.heap.size y.w w' by have := buRight_any x y.w (HI3.out.below y.h); rwa [hr] at this))
        have HRR := Lib.hid hr
        clear hr
        by_cases h0 : k = 0
        · subst h0
          have hd0 : decide ((0 : Int) < ((0 : Nat) : Int)) = false := by simp
          try simp only [Act.put, List.setIfInBounds_toArray, List.set_cons_succ, List.set_cons_zero]
          refine Agg.wp_region_later_lit (by kernel_rfl) (by kernel_rfl) ?_
          repeat (first | go_big_quiet_skip | ((first | (with_reducible refine Agg.wpQuiet_loadL HL3.out.all rfl _ rfl rfl ?_)); simp only [Act.put, List.setIfInBounds_toArray, List.set_cons_succ, List.set_cons_zero]) | go_big_quiet_step ((first | (go_at_call 9; exact Agg.Calls.later (HR.out _)))))
          refine wpQuiet_nil ?_
          intro _ hw'
          obtain ⟨x4, rfl⟩ := hw'
          go_wp2_with fail
          go_roundw
          case rel => exact ⟨1, by omega, by go_num, mapU_succ HM.out HX.out HRR.out (fun j y e => absurd e (by omega)), Agg.belowThen HW3.out (Nat.le_refl _) x4.h⟩
          case measure => simp [intOf]; omega
        · obtain ⟨j, rfl⟩ : ∃ j, k = j + 1 := ⟨k - 1, by omega⟩
          have hd0 : decide ((0 : Int) < ((j + 1 : Nat) : Int)) = true := decide_eq_true (by omega)
          obtain ⟨y, hyk⟩ : ∃ y, l[j]? = some y := ⟨_, List.getElem?_eq_getElem (by omega)⟩
          obtain ⟨q2, hadr2, hq2, hin2⟩ := HS3.out.at_ j y hyk
          have HQ2 := Lib.hid hq2
          have HY := Lib.hid hyk
          have HOY := Lib.hid (fun z : Later w3 => of_any y z.w)
          have HOX := Lib.hid (fun z : Later w3 => of_any x z.w)
          have HAG := Lib.hid (fun z : Later w3 => against_any (plOf y.1) (plOf x.1) z.w)
          have hsub : (((j + 1 : Nat) : Int) - 1) = (j : Int) := by omega
          clear hq2 hyk hin2
          obtain ⟨c, hc⟩ : ∃ c, cmpPl (plOf y.1) (plOf x.1) = c := ⟨_, rfl⟩
          rw [hc] at HAG
          have HC := Lib.hid hc
          clear hc
          by_cases h1 : 0 ≤ c
          · have hd1 := decide_eq_true h1
            try simp only [Act.put, List.setIfInBounds_toArray, List.set_cons_succ, List.set_cons_zero]
            refine Agg.wp_region_later_lit (by kernel_rfl) (by kernel_rfl) ?_
            repeat (first | go_big_quiet_skip | ((first | (with_reducible refine Agg.wpQuiet_loadL HL3.out.all rfl _ rfl rfl ?_) | (with_reducible refine Agg.wpQuiet_loadL HQ2.out.all rfl _ rfl rfl ?_)); simp only [Act.put, List.setIfInBounds_toArray, List.set_cons_succ, List.set_cons_zero]) | go_big_quiet_step ((first | (go_at_call 9; exact Agg.Calls.later (HR.out _)) | (go_at_call 22; with_reducible exact Agg.Calls.later (HOY.out _)) | (go_at_call 22; with_reducible exact Agg.Calls.later (HOX.out _)) | (go_at_call 23; exact Agg.Calls.later (HAG.out _)))))
            refine wpQuiet_nil ?_
            intro _ hw'
            obtain ⟨x4, rfl⟩ := hw'
            go_wp2_with fail
            go_ret
            exact ⟨false, rfl, mapU_not HX.out (.inr ⟨j, y, rfl, HY.out, by rw [← cmpPl_neg, HC.out]; exact decide_eq_false (by omega)⟩), Agg.belowThen HW3.out (Nat.le_refl _) x4.h⟩
          · have hd1 := decide_eq_false h1
            try simp only [Act.put, List.setIfInBounds_toArray, List.set_cons_succ, List.set_cons_zero]
            refine Agg.wp_region_later_lit (by kernel_rfl) (by kernel_rfl) ?_
            repeat (first | go_big_quiet_skip | ((first | (with_reducible refine Agg.wpQuiet_loadL HL3.out.all rfl _ rfl rfl ?_) | (with_reducible refine Agg.wpQuiet_loadL HQ2.out.all rfl _ rfl rfl ?_)); simp only [Act.put, List.setIfInBounds_toArray, List.set_cons_succ, List.set_cons_zero]) | go_big_quiet_step ((first | (go_at_call 9; exact Agg.Calls.later (HR.out _)) | (go_at_call 22; with_reducible exact Agg.Calls.later (HOY.out _)) | (go_at_call 22; with_reducible exact Agg.Calls.later (HOX.out _)) | (go_at_call 23; exact Agg.Calls.later (HAG.out _)))))
            refine wpQuiet_nil ?_
            intro _ hw'
            obtain ⟨x4, rfl⟩ := hw'
            go_wp2_with fail
            go_roundw
            case rel => exact ⟨j + 1 + 1, by omega, by go_num, mapU_succ HM.out HX.out HRR.out (fun i z e hz => (by obtain rfl : j = i := (by omega); rw [HY.out] at hz; obtain rfl := Option.some.inj hz; rw [← cmpPl_neg, HC.out]; exact decide_eq_true (by omega))), Agg.belowThen HW3.out (Nat.le_refl _) x4.h⟩
            case measure => simp [intOf]; omega
    · obtain rfl : k = l.length := by omega
      go_wp2_with fail
      go_ret
      exact ⟨true, rfl, ⟨fun _ => (mapU_all l).1 HM.out, fun _ => rfl⟩, HW.out⟩
end Go.Proofs.Ytniibcgomnjfgaa
/-! spencekit.BuiltsOf: it answers some number. -/
namespace Go.Proofs.Ytniibcgomnjfgaa
open Go.RowKit Pl Go.Agg
set_option maxRecDepth 100000 in
set_option maxHeartbeats 8000000 in
theorem builtsOf_any (v : Value) (l : List BuV) (hl : l.length ≤ 1048576) (hni : ∀ x ∈ l, x.1.ins.length ≤ 1048576 ∧ x.1.pa.1.2.length ≤ 1048576 ∧ ∀ m ∈ x.1.ins, m.2.1.2.length ≤ 1048576) (w : World) (hs : BusAt w v l) :
    Calls Try.prog 6 #[v, .int .i64 2000] w fun e w' => ∃ n : Nat, e = .returned (.int .i64 (n : Int)) ∧ Below w.heap.size w w' := by
  have HS := Lib.hid hs
  have HNI := Lib.hid hni
  have hlv := fun W => bus_len hs W
  clear hs hni
  go_enter Try.func6, Try.ntmps6
  go_wp2_with fail
  go_loopw [5, 6] (fun n i wr => ∃ k N : Nat, k ≤ l.length ∧ N ≤ 2000000 ∧ n = .int .i64 (N : Int) ∧ i = .int .i64 (k : Int) ∧ Below w.heap.size w wr) (fun _ i _ => l.length - (intOf i).toNat)
  case atStart => exact ⟨0, 0, by omega, by omega, rfl, rfl, Below.refl _ _⟩
  case round =>
    obtain ⟨wr1, rfl⟩ : ∃ y : World, y = wr := ⟨_, rfl⟩
    obtain ⟨k, N, hk, hN, rfl, rfl, hw⟩ := hrel
    have HW := Lib.hid hw
    clear hw
    by_cases hlt : k < l.length
    · have hd : decide ((k : Int) < (l.length : Int)) = true := by simp; omega
      by_cases hN2 : N ≤ 2000
      · have hd2 : decide ((N : Int) ≤ 2000) = true := by simp; omega
        obtain ⟨x, hxk⟩ : ∃ x, l[k]? = some x := ⟨_, List.getElem?_eq_getElem hlt⟩
        obtain ⟨q, hadr, hq, hin⟩ := (HS.out.below HW.out).at_ k x hxk
        obtain ⟨h1, h2, h3⟩ := HNI.out x (List.mem_of_getElem? hxk)
        have HQ := Lib.hid hq
        have HI := Lib.hid (show MdsAt wr1 (ivV x.2) x.1.ins from hin)
        have H3 := Lib.hid h3
        have hle := fun W => mds_len HI.out W
        have hsz := Agg.bytes_size x.1.pa.1.2
        clear hq hxk hin h3
        go_wp2_with (first | (with_reducible refine wpList_loadL HQ.out.pname rfl _ rfl rfl ?_))
        go_loopw [5, 7] (fun n i ws => ∃ j M : Nat, j ≤ x.1.ins.length ∧ M ≤ 2000000 ∧ n = .int .i64 (M : Int) ∧ i = .int .i64 (j : Int) ∧ Below wr1.heap.size wr1 ws) (fun _ i _ => x.1.ins.length - (intOf i).toNat)
        case atStart => exact ⟨0, N + 1 + x.1.pa.1.2.length, by omega, by omega, by go_num, rfl, Below.refl _ _⟩
        case round =>
          obtain ⟨ws1, rfl⟩ : ∃ y : World, y = wr := ⟨_, rfl⟩
          obtain ⟨j, M, hj, hM, rfl, rfl, hws⟩ := hrel
          have HQS := Lib.hid (HQ.out.below hws)
          have HWS := Lib.hid (Agg.belowThen HW.out (Nat.le_refl _) hws)
          have HRS := Lib.hid hws
          clear hws
          by_cases hlj : j < x.1.ins.length
          · have hdj : decide ((j : Int) < (x.1.ins.length : Int)) = true := by simp; omega
            by_cases hM2 : M ≤ 2000
            · have hdm : decide ((M : Int) ≤ 2000) = true := by simp; omega
              obtain ⟨m, hmj⟩ : ∃ m, x.1.ins[j]? = some m := ⟨_, List.getElem?_eq_getElem hlj⟩
              obtain ⟨qm, hadm, hqm⟩ := mds_at (HI.out.below HRS.out) j m hmj
              have h4 := H3.out m (List.mem_of_getElem? hmj)
              have HQM := Lib.hid hqm
              have hszm := Agg.bytes_size m.2.1.2
              clear hqm hmj
              go_wp2_with (first | (with_reducible refine wpList_loadL HQS.out.ins rfl _ rfl rfl ?_) | (with_reducible refine wpList_loadL HQM.out.pname rfl _ rfl rfl ?_))
              go_roundw
              case rel => exact ⟨j + 1, M + 1 + m.2.1.2.length, by omega, by omega, by go_num, by go_num, HRS.out⟩
              case measure => simp [intOf]; omega
            · have hdm : decide ((M : Int) ≤ 2000) = false := by simp; omega
              go_wp2_with (first | (with_reducible refine wpList_loadL HQS.out.ins rfl _ rfl rfl ?_))
              go_roundw
              case rel => exact ⟨k + 1, M, by omega, by omega, rfl, by go_num, HWS.out⟩
              case measure => simp [intOf]; omega
          · have hdj : decide ((j : Int) < (x.1.ins.length : Int)) = false := by simp; omega
            go_wp2_with (first | (with_reducible refine wpList_loadL HQS.out.ins rfl _ rfl rfl ?_))
            go_roundw
            case rel => exact ⟨k + 1, M, by omega, by omega, rfl, by go_num, HWS.out⟩
            case measure => simp [intOf]; omega
      · have hd2 : decide ((N : Int) ≤ 2000) = false := by simp; omega
        go_wp2_with fail
        go_ret
        exact ⟨N, rfl, HW.out⟩
    · obtain rfl : k = l.length := by omega
      go_wp2_with fail
      go_ret
      exact ⟨N, rfl, HW.out⟩
end Go.Proofs.Ytniibcgomnjfgaa
/-! code.Maker: numbers and texts as bytes. -/
namespace Go.Proofs.Ytniibcgomnjfgaa
open Go.RowKit Pl Go.Agg
theorem or128 (k : Nat) : bits .or .u8 ((k : Int) % 256) 128 = ((UInt8.ofNat (k % 128 + 128)).toNat : Int) := by
  have h : ∀ m : Nat, m < 256 → bits .or .u8 (m : Int) 128 = ((UInt8.ofNat (m % 128 + 128)).toNat : Int) := by decide +kernel
  have := h (k % 256) (by omega)
  rw [show k % 256 % 128 = k % 128 by omega] at this
  rw [← this]
  congr 1
set_option maxRecDepth 100000 in
set_option maxHeartbeats 1000000 in
theorem number_any (g n : Nat) (v0 : Value) (b : List UInt8) (w : World) (hn : n ≤ 1099511627776) (hb : b.length ≤ 16777216) (hm : MkV g w v0 b) :
    Calls Try.prog 49 #[.pointer (some ⟨g, 0, none⟩), .int .u64 (n : Int)] w fun e w' => (∃ r, e = .returned r) ∧ ∃ v', MkV g w' v' (b ++ encN n) ∧ MkStep g w w' v0 v' := by
  have HM0 := Lib.hid hm
  clear hm
  go_enter Try.func49, Try.ntmps49
  go_wp2_with fail
  go_loopw [1] (fun x wr => ∃ k : Nat, x = .int .u64 (k : Int) ∧ k ≤ 1099511627776 ∧ ∃ bs v, MkV g wr v bs ∧ bs ++ encN k = b ++ encN n ∧ MkStep g w wr v0 v) (fun x _ => (intOf x).toNat)
  case atStart => exact ⟨n, rfl, hn, b, v0, HM0.out, rfl, MkStep.refl _ _ _⟩
  case round =>
    obtain ⟨w1, rfl⟩ : ∃ w1 : World, w1 = wr := ⟨_, rfl⟩
    obtain ⟨k, rfl, hk, bs, v, hm, heq, hw⟩ := hrel
    have hbs : bs.length ≤ 33554432 := by
      have h1 := congrArg List.length heq
      have h2 := encN_len hn
      simp only [List.length_append] at h1
      omega
    have h63 : bs.length + 1 ≤ 1099511627776 / 8 := by omega
    have hbase : g + 1 ≤ w1.heap.size := hm.blk.lt
    have HM := Lib.hid hm
    have HO := Lib.hid hm.own
    have HEQ := Lib.hid heq
    have HW := Lib.hid hw
    clear hm heq hw
    by_cases hlt : 128 ≤ k
    · have hI : (128 : Int) ≤ (k : Int) := by omega
      have hor := or128 k
      obtain ⟨c, hc⟩ : ∃ c, UInt8.ofNat (k % 128 + 128) = c := ⟨_, rfl⟩
      rw [hc] at hor
      have HE : Hid (bs ++ [c] ++ encN (k / 128) = b ++ encN n) := Lib.hid (by rw [← hc, ← HEQ.out, encN_ge hlt, List.append_assoc]; rfl)
      clear hlt hc
      go_wp2_with (first | (with_reducible refine Agg.wpList_loadL HM.out.load rfl _ rfl rfl ?_) | (refine Agg.wpList_pushO (E := EB) (base := g + 1) rfl rfl 16 rfl _ rfl _ rfl (c) rfl (fun _ => rfl) (by simp) HO.out h63 (by decide) hbase ?_; intro u1 v1 w2 ho1 hp1 hgr1; obtain ⟨w3, hrun, hmk, hst⟩ := MkV.put HM.out ho1 hp1 hgr1; have HMK := Lib.hid hmk; have HST := Lib.hid hst; clear ho1 hp1 hgr1 hmk hst) | (refine Agg.wpList_store rfl rfl 46 _ _ rfl (.pointer (some ⟨g, 0, none⟩)) _ rfl rfl hrun ?_))
      go_roundw
      case rel => exact ⟨k / 128, by go_num, by omega, _, _, HMK.out, HE.out, HW.out.trans HST.out⟩
      case measure => simp [intOf]; omega
    · obtain ⟨c, rfl⟩ : ∃ c : UInt8, k = c.toNat := ⟨UInt8.ofNat k, by simp; omega⟩
      have hI : ¬ (128 : Int) ≤ (c.toNat : Int) := by omega
      have HE : Hid (bs ++ [c] = b ++ encN n) := Lib.hid (by rw [← HEQ.out, encN_lt (by omega), UInt8.ofNat_toNat])
      clear hlt
      go_wp2_with (first | (with_reducible refine Agg.wpList_loadL HM.out.load rfl _ rfl rfl ?_) | (refine Agg.wpList_pushO (E := EB) (base := g + 1) rfl rfl 27 rfl _ rfl _ rfl (c) rfl (fun _ => rfl) (by simp) HO.out h63 (by decide) hbase ?_; intro u1 v1 w2 ho1 hp1 hgr1; obtain ⟨w3, hrun, hmk, hst⟩ := MkV.put HM.out ho1 hp1 hgr1; have HMK := Lib.hid hmk; have HST := Lib.hid hst; clear ho1 hp1 hgr1 hmk hst) | (refine Agg.wpList_store rfl rfl 46 _ _ rfl (.pointer (some ⟨g, 0, none⟩)) _ rfl rfl hrun ?_))
      refine bodyPost_end (results_none rfl _ _ _) rfl ?_
      exact ⟨⟨_, rfl⟩, _, by rw [← HE.out]; exact HMK.out, HW.out.trans HST.out⟩
set_option maxRecDepth 100000 in
set_option maxHeartbeats 1000000 in
theorem allow_any (g n m : Nat) (v : Value) (b : List UInt8) (w : World) (hn : n ≤ m) (hm : m ≤ 1099511627776) (hv : MkV g w v b) :
    Calls Try.prog 48 #[.pointer (some ⟨g, 0, none⟩), .int .i64 (n : Int), .int .i64 (m : Int)] w fun e w' => e = .returned (.bool true) ∧ w' = w := by
  have HB := Lib.hid hv.bad
  clear hv
  have hI : ¬ (m : Int) < (n : Int) := by omega
  go_enter Try.func48, Try.ntmps48
  go_wp2_with (first | (with_reducible refine Agg.wpList_loadL HB.out rfl _ rfl rfl ?_))
  go_ret
  exact ⟨rfl, rfl⟩
set_option maxRecDepth 100000 in
set_option maxHeartbeats 1000000 in
theorem num_any (g : Nat) (v0 x : Value) (ns : List Nat) (b : List UInt8) (w : World) (hall : ∀ n ∈ ns, n ≤ 1099511627776) (hl : ns.length ≤ 16) (hb : b.length ≤ 8388608) (hx : Off EI g w v0 x ns) (hm : MkV g w v0 b) :
    Calls Try.prog 32 #[.pointer (some ⟨g, 0, none⟩), x] w fun e w' => e = .returned (.pointer (some ⟨g, 0, none⟩)) ∧ ∃ v', MkV g w' v' (b ++ ns.flatMap encN) ∧ MkStep g w w' v0 v' := by
  have HM0 := Lib.hid hm
  have hlx := fun W => ints_len hx.slice W
  have HX := Lib.hid hx
  clear hm hx
  go_enter Try.func32, Try.ntmps32
  go_wp2_with fail
  go_loopw [11] (fun i wr => ∃ k : Nat, k ≤ ns.length ∧ i = .int .i64 (k : Int) ∧ ∃ v, MkV g wr v (b ++ (ns.take k).flatMap encN) ∧ MkStep g w wr v0 v) (fun i _ => ns.length - (intOf i).toNat)
  case atStart => exact ⟨0, by omega, rfl, v0, by simpa using HM0.out, MkStep.refl _ _ _⟩
  case round =>
    obtain ⟨w1, rfl⟩ : ∃ w1 : World, w1 = wr := ⟨_, rfl⟩
    obtain ⟨k, hk, rfl, v, hm, hst⟩ := hrel
    have HM := Lib.hid hm
    have HS := Lib.hid hst
    clear hm hst
    by_cases hlt : k < ns.length
    · obtain ⟨y, hyk⟩ : ∃ y, ns[k]? = some y := ⟨_, List.getElem?_eq_getElem hlt⟩
      have hy : y ≤ 1099511627776 := hall y (List.mem_of_getElem? hyk)
      obtain ⟨p, hadr, hld⟩ := int_at (HX.out.step HS.out).slice k y hyk
      have HL := Lib.hid hld
      have hbl : (b ++ (ns.take k).flatMap encN).length ≤ 16777216 := by
        have : ∀ l : List Nat, (∀ n ∈ l, n ≤ 1099511627776) → (l.flatMap encN).length ≤ l.length * 6 := by
          intro l
          induction l with
          | nil => intro _; simp
          | cons a l ih =>
            intro h
            have h1 := encN_len (h a (by simp))
            have h2 := ih fun n hn => h n (by simp [hn])
            simp only [List.flatMap_cons, List.length_append, List.length_cons]
            omega
        have h1 := this (ns.take k) fun n hn => hall n (List.mem_of_mem_take hn)
        simp only [List.length_append]
        have : (ns.take k).length ≤ 16 := by simp; omega
        omega
      have hfl : b ++ (ns.take k).flatMap encN ++ encN y = b ++ (ns.take (k + 1)).flatMap encN := by rw [List.take_add_one, hyk]; simp
      have HF := Lib.hid hfl
      have hbn : ((y : Int) % 18446744073709551616) = (y : Int) := by omega
      clear hld hyk hfl
      go_wp2_with (first | (with_reducible refine Agg.wpList_loadL HL.out rfl _ rfl rfl ?_))
      refine (allow_any g y 1099511627776 v _ w1 hy (by omega) HM.out).mono ?_
      rintro e w2 ⟨rfl, rfl⟩
      go_wp2_with fail
      refine (number_any g y v _ _ hy hbl HM.out).mono ?_
      rintro e w3 ⟨⟨r, rfl⟩, v3, hm3, hs3⟩
      rw [HF.out] at hm3
      have HM3 := Lib.hid hm3
      have HS3 := Lib.hid hs3
      clear hm3 hs3
      go_wp2_with fail
      go_roundw
      case rel => exact ⟨k + 1, by omega, by go_num, v3, HM3.out, HS.out.trans HS3.out⟩
      case measure => simp [intOf]; omega
    · obtain rfl : k = ns.length := by omega
      have HMT := Lib.hid (show MkV g w1 v (b ++ ns.flatMap encN) by have := HM.out; rwa [List.take_length] at this)
      go_wp2_with fail
      go_ret
      exact ⟨rfl, v, HMT.out, HS.out⟩
set_option maxRecDepth 100000 in
set_option maxHeartbeats 1000000 in
theorem raw_any (g : Nat) (v x : Value) (l b : List UInt8) (w : World) (hb : b.length ≤ 16777216) (hl : l.length ≤ 16777216) (hx : SliceOf EB w x l) (hm : MkV g w v b) :
    Calls Try.prog 33 #[.pointer (some ⟨g, 0, none⟩), x] w fun e w' => e = .returned (.pointer (some ⟨g, 0, none⟩)) ∧ ∃ v', MkV g w' v' (b ++ l) ∧ MkStep g w w' v v' := by
  have HM := Lib.hid hm
  have HX := Lib.hid hx
  have HO := Lib.hid hm.own
  have h63 : b.length + l.length ≤ 1099511627776 / 8 := by omega
  have hbase : g + 1 ≤ w.heap.size := hm.blk.lt
  clear hm hx
  go_enter Try.func33, Try.ntmps33
  go_wp2_with (first | (with_reducible refine Agg.wpList_loadL HM.out.load rfl _ rfl rfl ?_) | (refine Agg.wpList_appendO (E := EB) (base := g + 1) rfl _ _ rfl x rfl rfl l HO.out HX.out h63 (by decide) hbase ?_; intro v1 w2 ho1 hp1 hgr1; obtain ⟨w3, hrun, hmk, hst⟩ := MkV.put HM.out ho1 hp1 hgr1; have HMK := Lib.hid hmk; have HST := Lib.hid hst; clear ho1 hp1 hgr1 hmk hst) | (refine Agg.wpList_store rfl rfl 46 _ _ rfl (.pointer (some ⟨g, 0, none⟩)) _ rfl rfl hrun ?_))
  go_ret
  exact ⟨rfl, v1, HMK.out, HST.out⟩
end Go.Proofs.Ytniibcgomnjfgaa
