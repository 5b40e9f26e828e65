/- spencelaw09.awake: the chapter's examples. -/
import Derived.Test.YtfiadgdinhmgbaaGreatDoorEAS
import Derived.Test.YtfiadgdinhmgbaaGreatDoorEAT
import Derived.Lib.SlBytesConst
namespace Go.Tr
open Go.Proofs.YtfiadgdinhmgbaaGreatDoor Go.Agg
def fA : T := .mk 1 [97, 98] []
def tA : T := .mk 4 [] [([120], fA)]
theorem right_A : right tA = true := by decide +kernel
theorem right_fA : right fA = true := by decide +kernel
theorem pack_fA : packB fA = [1, 2, 97, 98] := by
 have h1 := encN_lt (n := 1) (by omega)
 have h2 := encN_lt (n := 2) (by omega)
 simp [packB, fA, encT, h1, h2]
theorem pack_A : packB tA = [4, 1, 1, 120, 1, 2, 97, 98] := by
 have h1 := encN_lt (n := 1) (by omega)
 have h4 := encN_lt (n := 4) (by omega)
 simp [packB, tA, packL, pack_fA, encT, h1, h4]
theorem awake_pack : pkE tA = 0 ∧ pkB tA = [4, 1, 1, 120, 1, 2, 97, 98] := by
 have e : pkE tA = 0 := pkE_zero.2 ⟨right_A, by rw [pack_A]; decide⟩
 exact ⟨e, by rw [pkB, if_pos e, pack_A]⟩
theorem awake_open : opE [4, 1, 1, 120, 1, 2, 97, 98] = 0 ∧ opT [4, 1, 1, 120, 1, 2, 97, 98] = tA := by
 have h := back_pack (t := tA) (u := tA) awake_pack.1
 rw [awake_pack.2] at h
 exact ⟨h.1, h.2.1⟩
theorem awake_at : atE [4, 1, 1, 120, 1, 2, 97, 98] [120] = 0 ∧ atB [4, 1, 1, 120, 1, 2, 97, 98] [120] = [1, 2, 97, 98] := by
 have hw : wayN [120] = some [[120]] := by decide +kernel
 have hf : find tA [[120]] = some fA := by decide +kernel
 obtain ⟨h1, h2⟩ := fdE_of right_A hw hf
 have e : atE [4, 1, 1, 120, 1, 2, 97, 98] [120] = 0 := by rw [atE, if_pos awake_open.1, awake_open.2, h1]
 exact ⟨e, by rw [atB, if_pos e, awake_open.2, h2, pack_fA]⟩
end Go.Tr
namespace Go.Proofs.YtfiadgdinhmgbaaGreatDoor
open Go.RowKit Pl Go.Agg Go.Tr
theorem nd_build02 (k : Int) (s : SV) (W : World) : (Instr.build 26 #[(0, .int .i64 k), (2, s.1)]).run Tryz.prog W = .ok (.agg (ndC (k, svN, s))) W := by
 obtain ⟨_, p, m, c, rfl⟩ := s
 kernel_rfl
theorem slice_lit {w : World} {cs : Array Value} {l : List UInt8} (h : cs.toList = EB.flat l) : SliceOf EB (w.alloc (.cells cs 5)) (.slice (some ⟨w.heap.size, 0, none⟩) l.length l.length) l := by
 have hb := Blk.new w 5 cs
 refine .inr ⟨_, l.length, rfl, hb.lt, fun j u hj => ?_⟩
 rw [← h] at hj
 rw [add_plain, Nat.zero_add, hb.cell, ← Array.getElem?_toList]
 exact hj
theorem lit8_run (W : World) : (Instr.buildSlice 23 8 #[(0, .int .u8 4), (1, .int .u8 1), (2, .int .u8 1), (3, .int .u8 120), (4, .int .u8 1), (5, .int .u8 2), (6, .int .u8 97), (7, .int .u8 98)]).run Tryz.prog W = .ok (.slice (some ⟨W.heap.size, 0, none⟩) 8 8) (W.alloc (.cells #[.int .u8 4, .int .u8 1, .int .u8 1, .int .u8 120, .int .u8 1, .int .u8 2, .int .u8 97, .int .u8 98] 5)) := by kernel_rfl
theorem lit4_run (W : World) : (Instr.buildSlice 23 4 #[(0, .int .u8 1), (1, .int .u8 2), (2, .int .u8 97), (3, .int .u8 98)]).run Tryz.prog W = .ok (.slice (some ⟨W.heap.size, 0, none⟩) 4 4) (W.alloc (.cells #[.int .u8 1, .int .u8 2, .int .u8 97, .int .u8 98] 5)) := by kernel_rfl
section
variable {ops : Array Oper} {rest : List Oper} {o o2 : Oper} {a : Act} {w : World} {Q : Exit → Act → World → Prop}
set_option maxRecDepth 100000 in
theorem wpList_lit8 (hw : Region.wanted o (yielded ops a.tmps) = true) (ho : o.op = .buildSlice 23 8 #[(0, .const (.int .u8 4)), (1, .const (.int .u8 1)), (2, .const (.int .u8 1)), (3, .const (.int .u8 120)), (4, .const (.int .u8 1)), (5, .const (.int .u8 2)), (6, .const (.int .u8 97)), (7, .const (.int .u8 98))])
  (h : ∀ v w', SliceOf EB w' v [4, 1, 1, 120, 1, 2, 97, 98] → Below w.heap.size w w' → wpList Tryz.prog ops Q rest (a.put o.dst v) w') : wpList Tryz.prog ops Q (o :: rest) a w := by
 refine Agg.wpList_valw hw (v := .slice (some ⟨w.heap.size, 0, none⟩) 8 8) (w' := w.alloc (.cells #[.int .u8 4, .int .u8 1, .int .u8 1, .int .u8 120, .int .u8 1, .int .u8 2, .int .u8 97, .int .u8 98] 5)) ?_ (h _ _ (slice_lit (l := [4, 1, 1, 120, 1, 2, 97, 98]) rfl) ((Below.refl _ _).alloc (Nat.le_refl _) _))
 simp [execOp, ho, Act.eval, lit8_run]
set_option maxRecDepth 100000 in
theorem wpList_lit4 (hw : Region.wanted o (yielded ops a.tmps) = true) (ho : o.op = .buildSlice 23 4 #[(0, .const (.int .u8 1)), (1, .const (.int .u8 2)), (2, .const (.int .u8 97)), (3, .const (.int .u8 98))])
  (h : ∀ v w', SliceOf EB w' v [1, 2, 97, 98] → Below w.heap.size w w' → wpList Tryz.prog ops Q rest (a.put o.dst v) w') : wpList Tryz.prog ops Q (o :: rest) a w := by
 refine Agg.wpList_valw hw (v := .slice (some ⟨w.heap.size, 0, none⟩) 4 4) (w' := w.alloc (.cells #[.int .u8 1, .int .u8 2, .int .u8 97, .int .u8 98] 5)) ?_ (h _ _ (slice_lit (l := [1, 2, 97, 98]) rfl) ((Below.refl _ _).alloc (Nat.le_refl _) _))
 simp [execOp, ho, Act.eval, lit4_run]
theorem wpList_const2 (hg : o.guard = none) (hg2 : o2.guard = none) (d : Tmp) (hd : o.dst = some d) (x y : Operand) (ho : o.op = .buildSlice 23 2 #[(0, x), (1, y)]) (ho2 : o2.op = .convert 23 23 (.tmp d)) (hsz : d < a.tmps.size) (vx vy : UInt8) (hx : a.eval x = EB.val vx) (hy : a.eval y = EB.val vy)
  (h : ∀ p w', SliceOf EB w' (.slice p 2 2) [vx, vy] → Below w.heap.size w w' → wpList Tryz.prog ops Q rest ((a.put o.dst (.slice p 2 2)).put o2.dst (.slice p 2 2)) w') : wpList Tryz.prog ops Q (o :: o2 :: rest) a w := by
 have hr := Lib.run_convert_bytes_const (P := Tryz.prog) w 23 5 ((EB.val vx).cells ++ (EB.val vy).cells) 2 2 (by kernel_rfl) Tryz.underlying5
 have he : (a.put o.dst (.slice (some ⟨w.heap.size, 0, none⟩) 2 2)).eval (.tmp d) = .slice (some ⟨w.heap.size, 0, none⟩) 2 2 := by
  rw [hd]; simp [Act.put, Act.eval, hsz]
 refine Agg.wpList_val hg (v := .slice (some ⟨w.heap.size, 0, none⟩) 2 2) (w' := w.alloc (.cells ((EB.val vx).cells ++ (EB.val vy).cells) 5)) (by have := Agg.run_slice_two (E := EB) vx vy w; simp [execOp, ho, hx, hy]; exact congrArg (fun r => Result.andThen r _) this) ?_
 refine Agg.wpList_val hg2 (v := .slice (some ⟨w.heap.size, 0, none⟩) 2 2) (w' := w.alloc (.cells ((EB.val vx).cells ++ (EB.val vy).cells) 5 (((EB.val vx).cells ++ (EB.val vy).cells).size, ((EB.val vx).cells ++ (EB.val vy).cells).size + 1))) (by rw [execOp, ho2]; simp only [he, Sem.run_bind]; rw [hr]; rfl) (h _ _ ?_ ((Below.refl _ _).alloc (Nat.le_refl _) _))
 refine .inr ⟨_, 2, rfl, Agg.heap_lt (heap_alloc_new w _), fun j u hj => ?_⟩
 rw [add_plain, Nat.zero_add, cell_of_row _ _ _ _ _ _ (heap_alloc_new w _), ← Array.getElem?_toList]
 exact hj
end
set_option maxRecDepth 100000 in
set_option maxHeartbeats 8000000 in
theorem awake09_any (w : World) : Calls Tryz.prog 8 #[] w fun e w' => e = .returned (.bool true) ∧ Below w.heap.size w w' := by
 go_enter Tryz.func8, Tryz.ntmps8
 go_wp2_with (first | (refine wpList_const2 rfl rfl 8 rfl _ _ rfl rfl (by decide) 97 98 rfl rfl ?_; intro p1 w1 hs hx; have HS1 := Lib.hid hs; have HX1 := Lib.hid hx; clear hs hx) | (refine wpList_slice1 (E := EK) rfl _ rfl (([120], (1, ⟨.slice p1 2 2, p1, 2, 2, rfl⟩, svN)) : KdV) rfl (Nat.le_refl _) ?_; intro vk w2 hk hx; obtain ⟨p2, c2, rfl⟩ := hk.slice.form; have HK2 := Lib.hid hk.slice; have HS2 := Lib.hid (HS1.out.below hx); have HX2 := Lib.hid (belowThen HX1.out (Nat.le_refl _) hx); clear hk hx) | (refine wpList_new rfl rfl rfl 26 1 13 rfl rfl rfl (by decide) (ndC ndZ) (ndC (4, svN, ⟨.slice p2 1 c2, p2, 1, c2, rfl⟩)) nd_zero rfl (nd_info _) (ndC_one _) rfl (by first | (simp; done) | simp [Act.put]) ?_; intro g1 w3 hb hx hg; have HB3 := Lib.hid hb; have HX3 := Lib.hid (belowThen HX2.out (Nat.le_refl _) hx); have HS3 := Lib.hid (HS2.out.below hx); have HK3 := Lib.hid (HK2.out.below hx); clear hb hx hg) | (with_reducible refine wpList_loadL (NdL.of_blk HB3.out).all rfl _ rfl rfl ?_))
 have HN3 := Lib.hid (show NodeV w3 (4, svN, ⟨.slice p2 1 c2, p2, 1, c2, rfl⟩) tA from ⟨rfl, .nil _ _ _, _, HK3.out, rfl, ⟨rfl, HS3.out, [], .nil _ _ _, trivial⟩, trivial⟩)
 refine (pack_any _ tA w3 ⟨_, rfl, HN3.out⟩).mono ?_
 rintro e w4 ⟨vb, rfl, ho, hx⟩
 rw [awake_pack.2] at ho
 rw [awake_pack.1]
 have HO4 := Lib.hid ho.slice
 have HB4 := Lib.hid (HB3.out.below hx)
 have HN4 := Lib.hid (NodeV.below hx _ _ HN3.out)
 have HX4 := Lib.hid (belowThen HX3.out (Nat.le_refl _) hx)
 clear ho hx
 go_wp2_with fail
 refine (at_any vb [4, 1, 1, 120, 1, 2, 97, 98] [120] (by decide) (by decide) w4 HO4.out).mono ?_
 rintro e w5 ⟨va, rfl, ho, hx⟩
 rw [awake_at.2] at ho
 rw [awake_at.1]
 have HA5 := Lib.hid ho.slice
 have HO5 := Lib.hid (HO4.out.below hx)
 have HB5 := Lib.hid (HB4.out.below hx)
 have HN5 := Lib.hid (NodeV.below hx _ _ HN4.out)
 have HX5 := Lib.hid (belowThen HX4.out (Nat.le_refl _) hx)
 clear ho hx
 go_wp2_with fail
 refine (open_any vb [4, 1, 1, 120, 1, 2, 97, 98] w5 (by decide) HO5.out).mono ?_
 rintro e w6 ⟨x6, rfl, hon, hx⟩
 rw [awake_open.2] at hon
 rw [awake_open.1]
 have HM6 := Lib.hid hon.reads
 have HA6 := Lib.hid (HA5.out.below hx)
 have HO6 := Lib.hid (HO5.out.below hx)
 have HB6 := Lib.hid (HB5.out.below hx)
 have HN6 := Lib.hid (NodeV.below hx _ _ HN5.out)
 have HX6 := Lib.hid (belowThen HX5.out (Nat.le_refl _) hx)
 clear hon hx
 go_wp2_with (first | (refine wpList_new rfl rfl rfl 26 6 27 rfl rfl rfl (by decide) (ndC ndZ) (ndC x6) nd_zero rfl (nd_info _) (ndC_one _) rfl (by first | (simp; done) | simp [Act.put]) ?_; intro g6 w7 hb hx hg; have HR7 := Lib.hid hb; have HB7 := Lib.hid (HB6.out.below hx); have HX7 := Lib.hid (belowThen HX6.out (Nat.le_refl _) hx); have HN7 := Lib.hid (NodeV.below hx _ _ HN6.out); have HM7 := Lib.hid (NodeV.below hx _ _ HM6.out); have HA7 := Lib.hid (HA6.out.below hx); have HO7 := Lib.hid (HO6.out.below hx); clear hb hx hg) | (refine wpList_lit8 rfl rfl ?_; intro v8 w8 h8 hx; have H8 := Lib.hid h8; have HR8 := Lib.hid (HR7.out.below hx); have HB8 := Lib.hid (HB7.out.below hx); have HX8 := Lib.hid (belowThen HX7.out (Nat.le_refl _) hx); have HN8 := Lib.hid (NodeV.below hx _ _ HN7.out); have HM8 := Lib.hid (NodeV.below hx _ _ HM7.out); have HA8 := Lib.hid (HA7.out.below hx); have HO8 := Lib.hid (HO7.out.below hx); clear h8 hx))
 refine (sameBytes_any vb v8 _ _ (by decide) (by decide) w8 HO8.out H8.out).mono ?_
 rintro e w9 ⟨rfl, hx⟩
 have HR9 := Lib.hid (HR8.out.below hx)
 have HB9 := Lib.hid (HB8.out.below hx)
 have HX9 := Lib.hid (belowThen HX8.out (Nat.le_refl _) hx)
 have HN9 := Lib.hid (NodeV.below hx _ _ HN8.out)
 have HM9 := Lib.hid (NodeV.below hx _ _ HM8.out)
 have HA9 := Lib.hid (HA8.out.below hx)
 clear hx
 go_wp2_with (first | (refine wpList_lit4 rfl rfl ?_; intro v10 w10 h10 hx; have H10 := Lib.hid h10; have HR10 := Lib.hid (HR9.out.below hx); have HB10 := Lib.hid (HB9.out.below hx); have HX10 := Lib.hid (belowThen HX9.out (Nat.le_refl _) hx); have HN10 := Lib.hid (NodeV.below hx _ _ HN9.out); have HM10 := Lib.hid (NodeV.below hx _ _ HM9.out); have HA10 := Lib.hid (HA9.out.below hx); clear h10 hx))
 refine (sameBytes_any va v10 _ _ (by decide) (by decide) w10 HA10.out H10.out).mono ?_
 rintro e w11 ⟨rfl, hx⟩
 have HR11 := Lib.hid (HR10.out.below hx)
 have HB11 := Lib.hid (HB10.out.below hx)
 have HX11 := Lib.hid (belowThen HX10.out (Nat.le_refl _) hx)
 have HN11 := Lib.hid (NodeV.below hx _ _ HN10.out)
 have HM11 := Lib.hid (NodeV.below hx _ _ HM10.out)
 have HA11 := Lib.hid (HA10.out.below hx)
 clear hx
 go_wp2_with (first | (with_reducible refine wpList_loadL (NdL.of_blk HR11.out).all rfl _ rfl rfl ?_) | (with_reducible refine wpList_loadL (NdL.of_blk HB11.out).all rfl _ rfl rfl ?_))
 refine (sameNode_any tA tA (by decide +kernel) (by decide +kernel) _ _ w11 ⟨_, rfl, HM11.out⟩ ⟨_, rfl, HN11.out⟩).mono ?_
 rintro e w12 ⟨rfl, hx⟩
 rw [show same tA tA = true from by decide +kernel]
 have HX12 := Lib.hid (belowThen HX11.out (Nat.le_refl _) hx)
 clear hx
 go_wp2_with fail
 go_ret
 exact ⟨rfl, HX12.out⟩
end Go.Proofs.YtfiadgdinhmgbaaGreatDoor
