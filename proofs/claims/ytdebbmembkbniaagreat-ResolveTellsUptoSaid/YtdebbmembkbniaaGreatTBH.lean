/- The least path above the last one: the plain law of spenceref03.Sorted. (Several texts in one.) -/
import Derived.Test.YtdebbmembkbniaaGreatTAB
import Derived.Test.YtdebbmembkbniaaGreatTAA
import Derived.Test.YtdebbmembkbniaaGreatProg
import Derived.Shelf.SlGeneric
import Derived.Ground.SlsfProg
import Derived.Shelf.SlSortCmp.WholeK
import Derived.Sort.Grow
import Derived.Deep.QuietTactic
import Derived.Test.YtdebbmembkbniaaGreatTAJ
import Derived.Test.YtdebbmembkbniaaGreatTAH
import Derived.Great.BuildSlice
import Derived.Shelf.SlSortCmp.NoneTotal
/-! spenceref03.Less -/
namespace Go.Proofs.YtdebbmembkbniaaGreat
open Go.RowKit Pl Go.Agg
open Go.Lib (compareBytes)
set_option maxRecDepth 100000 in
set_option maxHeartbeats 1000000 in
theorem refLess_any (h n h' n' : List UInt8) (hl : h.length = 20) (hl' : h'.length = 20) (w : World) :
  Calls Tryz.prog 90 #[.agg (pC h n), .agg (pC h' n')] w fun e w' => e = .returned (.bool (decide (cmpP h n h' n' < 0))) ∧ Below w.heap.size w w' := by
 have hb1 := heap_alloc_new (w.alloc (.cells (pC h n) 48)) (.cells (pC h' n') 48)
 have hb0 : ((w.alloc (.cells (pC h n) 48)).alloc (.cells (pC h' n') 48)).heap[w.heap.size]? = _ := (heap_alloc_old _ _ (by simp)).trans (heap_alloc_new w (.cells (pC h n) 48))
 have hw : Below w.heap.size w ((w.alloc (.cells (pC h n) 48)).alloc (.cells (pC h' n') 48)) := ((Below.refl _ _).alloc (Nat.le_refl _) _).alloc (by simp) _
 rw [show (w.alloc (.cells (pC h n) 48)).heap.size = w.heap.size + 1 by simp] at hb1
 have HL := Lib.hid hl
 have HL' := Lib.hid hl'
 clear hl hl'
 go_enter Tryz.func90, Tryz.ntmps90
 go_wp2_with fail
 generalize (w.alloc (.cells (pC h n) 48)).alloc (.cells (pC h' n') 48) = w0 at *
 go_loopw [5] (fun i wr => ∃ k : Nat, k ≤ 20 ∧ i = .int .i64 k ∧ h.take k = h'.take k ∧ wr.heap[w.heap.size]? = some (.cells (pC h n) 48 (0, 0)) ∧ wr.heap[w.heap.size + 1]? = some (.cells (pC h' n') 48 (0, 0)) ∧ Below w.heap.size w wr) (fun i _ => 20 - (intOf i).toNat)
 case atStart => exact ⟨0, by omega, rfl, rfl, hb0, hb1, hw⟩
 case round =>
  obtain ⟨k, hk, rfl, hkk, hb0, hb1, hw⟩ := hrel
  have HK := Lib.hid hkk
  clear hkk
  by_cases hlt : k < 20
  ·have hd : decide ((k : Int) < 20) = true := by simp; omega
   have hx : h[k]? = some (h[k]'(by rw [HL.out]; exact hlt)) := List.getElem?_eq_getElem _
   have hy : h'[k]? = some (h'[k]'(by rw [HL'.out]; exact hlt)) := List.getElem?_eq_getElem _
   generalize h[k]'(by rw [HL.out]; exact hlt) = x at hx
   generalize h'[k]'(by rw [HL'.out]; exact hlt) = y at hy
   have c0 : wr.cell? ⟨w.heap.size, k, none⟩ = some (.int .u8 (x.toNat : Int)) := by rw [cell_of_row _ _ _ _ _ _ hb0, pC_byte h n k x hx]
   have c1 : wr.cell? ⟨w.heap.size + 1, k, none⟩ = some (.int .u8 (y.toNat : Int)) := by rw [cell_of_row _ _ _ _ _ _ hb1, pC_byte h' n' k y hy]
   have HX := Lib.hid hx
   have HY := Lib.hid hy
   clear hx hy
   by_cases hxy : x = y
   ·have hne : ((x.toNat : Int) != (y.toNat : Int)) = false := by simp [hxy]
    go_wp2_with fail
    go_region
    go_wp2_with fail
    go_roundw
    case rel => exact ⟨k + 1, by omega, by go_num, by rw [List.take_add_one, List.take_add_one, HK.out, HX.out, HY.out, hxy], hb0, hb1, hw.drew⟩
    case measure => simp [intOf]; omega
   ·have hne : ((x.toNat : Int) != (y.toNat : Int)) = true := by
     simp only [bne_iff_ne, ne_eq]
     intro e
     exact hxy (UInt8.toNat_inj.1 (by omega))
    go_wp2_with fail
    go_region
    have hres : decide (cmpP h n h' n' < 0) = decide (x.toNat < y.toNat) := by
     have hhh : (h == h') = false := by
      simp only [beq_eq_false_iff_ne, ne_eq]
      rintro rfl
      exact hxy (Option.some.inj (HX.out.symm.trans HY.out))
     rw [cmpP, hhh, if_neg (by simp), compare_diff k h h' x y HX.out HY.out HK.out hxy]
     rw [decide_eq_decide, UInt8.lt_iff_toNat_lt]
    have HR := Lib.hid hres
    clear hres
    go_wp2_with fail
    go_region
    go_wp2_with fail
    go_ret
    exact ⟨ret_bool HR.out.symm, hw.drew.drew⟩
  ·obtain rfl : k = 20 := by omega
   have hhh : h = h' := by
    have := HK.out
    rwa [List.take_of_length_le (by rw [HL.out]; omega), List.take_of_length_le (by rw [HL'.out]; omega)] at this
   have c0 : wr.cell? ⟨w.heap.size, 20, none⟩ = some (.string ⟨n.toArray⟩) := by rw [cell_of_row _ _ _ _ _ _ hb0, pC_name h n HL.out]
   have c1 : wr.cell? ⟨w.heap.size + 1, 20, none⟩ = some (.string ⟨n'.toArray⟩) := by rw [cell_of_row _ _ _ _ _ _ hb1, pC_name h' n' HL'.out]
   have hres : decide (cmpP h n h' n' < 0) = Op.bytesLess n n' := by rw [← compare_less, cmpP, hhh]; simp
   have HR := Lib.hid hres
   clear hres hhh
   have hta := Agg.bytes_toList n
   have htb := Agg.bytes_toList n'
   go_wp2_with fail
   go_ret
   exact ⟨ret_bool HR.out.symm, hw⟩
end Go.Proofs.YtdebbmembkbniaaGreat
/-! DERIVED: THE SHELF's CONTRACTS AT THIS DUMP, IN PLAIN WORDS (tools/lay-plain.mjs out of 'TryzShelf.lean', which tools/lay-shelf.mjs wrote): THE SAME DECLARATIONS UNDER THE SAME NAMES: 'import', 'namespace', 'open', 'def', 'theorem' AND NOTHING ELSE: no command of the shelf's: FOR A HAND-IN. Each laying: the table of numbers ('.._ren') and one theorem, a field a fact of the dump's own or the kernel's comparison; each contract: ONE APPLICATION. -/
namespace Go.Proofs
open Go.Shelf
def Tryz.sortPath_ren : Go.Shelf.Ren := ⟨fun | 6 => 88 | 15 => 128 | 14 => 127 | 28 => 170 | 29 => 171 | 20 => 162 | 21 => 163 | 22 => 164 | 23 => 165 | 24 => 166 | 25 => 167 | 26 => 168 | 27 => 169 | 46 => 178 | 47 => 179 | 48 => 180 | 49 => 181 | 50 => 182 | 57 => 186 | n => n, fun | 22 => 55 | 24 => 48 | 25 => 172 | 3 => 3 | 39 => 153 | 0 => 0 | 53 => 204 | 55 => 151 | 4 => 4 | 46 => 285 | 45 => 284 | 50 => 289 | 5 => 5 | 9 => 9 | 66 => 295 | 70 => 299 | 76 => 304 | 77 => 305 | n => n, fun | n => n⟩
theorem Tryz.sortPath : Go.Proofs.SlLaysF0.n6 Tryz.prog Tryz.sortPath_ren := {
 mixed := by kernel_rfl
 f6 := ⟨Tryz.f88.name, by decide, Tryz.func88.trans (congrArg some (by kernel_rfl))⟩
 f14 := ⟨Tryz.f127.name, by decide, Tryz.func127.trans (congrArg some (by kernel_rfl))⟩
 f15 := Tryz.func128.trans (congrArg some (by kernel_rfl))
 f20 := ⟨Tryz.f162.name, by decide, Tryz.func162.trans (congrArg some (by kernel_rfl))⟩
 f21 := ⟨Tryz.f163.name, by decide, Tryz.func163.trans (congrArg some (by kernel_rfl))⟩
 f22 := ⟨Tryz.f164.name, by decide, Tryz.func164.trans (congrArg some (by kernel_rfl))⟩
 f23 := ⟨Tryz.f165.name, by decide, Tryz.func165.trans (congrArg some (by kernel_rfl))⟩
 f24 := ⟨Tryz.f166.name, by decide, Tryz.func166.trans (congrArg some (by kernel_rfl))⟩
 f25 := ⟨Tryz.f167.name, by decide, Tryz.func167.trans (congrArg some (by kernel_rfl))⟩
 f26 := ⟨Tryz.f168.name, by decide, Tryz.func168.trans (congrArg some (by kernel_rfl))⟩
 f27 := ⟨Tryz.f169.name, by decide, Tryz.func169.trans (congrArg some (by kernel_rfl))⟩
 f28 := Tryz.func170.trans (congrArg some (by kernel_rfl))
 f29 := Tryz.func171.trans (congrArg some (by kernel_rfl))
 f46 := ⟨Tryz.f178.name, by decide, Tryz.func178.trans (congrArg some (by kernel_rfl))⟩
 f47 := Tryz.func179.trans (congrArg some (by kernel_rfl))
 f48 := Tryz.func180.trans (congrArg some (by kernel_rfl))
 f49 := ⟨Tryz.f181.name, by decide, Tryz.func181.trans (congrArg some (by kernel_rfl))⟩
 f50 := ⟨Tryz.f182.name, by decide, Tryz.func182.trans (congrArg some (by kernel_rfl))⟩
 f57 := ⟨Tryz.f186.name, by decide, Tryz.func186.trans (congrArg some (by kernel_rfl))⟩
 t0 := Tryz.underlying0
 a0 := Tryz.isAgg0
 z0 := Tryz.sizeOf0
 v0 := Tryz.zeroValue0
 t3 := Tryz.underlying3
 a3 := Tryz.isAgg3
 z3 := Tryz.sizeOf3
 v3 := Tryz.zeroValue3
 t4 := Tryz.underlying4
 a4 := Tryz.isAgg4
 z4 := Tryz.sizeOf4
 v4 := Tryz.zeroValue4
 t5 := Tryz.underlying5
 a5 := Tryz.isAgg5
 z5 := Tryz.sizeOf5
 v5 := Tryz.zeroValue5
 t9 := Tryz.underlying9
 a9 := Tryz.isAgg9
 z9 := Tryz.sizeOf9
 v9 := Tryz.zeroValue9
 t22 := Tryz.underlying55
 a22 := Tryz.isAgg55
 z22 := Tryz.sizeOf55
 v22 := Tryz.zeroValue55
 t25 := Tryz.underlying172
 a25 := Tryz.isAgg172
 z25 := Tryz.sizeOf172
 v25 := Tryz.zeroValue172
 t39 := Tryz.underlying153
 a39 := Tryz.isAgg153
 z39 := Tryz.sizeOf153
 v39 := Tryz.zeroValue153
 t45 := Tryz.underlying284
 a45 := Tryz.isAgg284
 z45 := Tryz.sizeOf284
 v45 := Tryz.zeroValue284
 t46 := Tryz.underlying285
 a46 := Tryz.isAgg285
 z46 := Tryz.sizeOf285
 v46 := Tryz.zeroValue285
 t50 := Tryz.underlying289
 a50 := Tryz.isAgg289
 z50 := Tryz.sizeOf289
 v50 := Tryz.zeroValue289
 t53 := Tryz.underlying204
 a53 := Tryz.isAgg204
 z53 := Tryz.sizeOf204
 v53 := Tryz.zeroValue204
 t55 := Tryz.underlying151
 a55 := Tryz.isAgg151
 z55 := Tryz.sizeOf151
 v55 := Tryz.zeroValue151
 t66 := Tryz.underlying295
 a66 := Tryz.isAgg295
 z66 := Tryz.sizeOf295
 v66 := Tryz.zeroValue295
 t70 := Tryz.underlying299
 a70 := Tryz.isAgg299
 z70 := Tryz.sizeOf299
 v70 := Tryz.zeroValue299
 t76 := Tryz.underlying304
 a76 := Tryz.isAgg304
 z76 := Tryz.sizeOf304
 v76 := Tryz.zeroValue304
 t77 := Tryz.underlying305
 a77 := Tryz.isAgg305
 z77 := Tryz.sizeOf305
 v77 := Tryz.zeroValue305 }
end Go.Proofs
/-! base.order, as the sort asks it: the world behind it to the last block. -/
namespace Go.Proofs.YtdebbmembkbniaaGreat
open Go.RowKit Pl Go.Agg
open Go.Lib (compareBytes)
set_option maxRecDepth 100000 in
set_option maxHeartbeats 1000000 in
theorem order_grown (h n h' n' : List UInt8) (hl : h.length = 20) (hl' : h'.length = 20) (w : World) :
  Calls Tryz.prog 89 #[.agg (pC h n), .agg (pC h' n')] w fun e w' => e = .returned (.int .i64 (cmpP h n h' n')) ∧ ∃ q os, w' = Sort.grow (w.drewN q) os := by
 have hb1 := heap_alloc_new (w.alloc (.cells (pC h n) 48)) (.cells (pC h' n') 48)
 have hb0 : ((w.alloc (.cells (pC h n) 48)).alloc (.cells (pC h' n') 48)).heap[w.heap.size]? = _ := (heap_alloc_old _ _ (by simp)).trans (heap_alloc_new w (.cells (pC h n) 48))
 have hw : ∃ os, (w.alloc (.cells (pC h n) 48)).alloc (.cells (pC h' n') 48) = Sort.grow w os := ⟨_, by rw [Sort.alloc_eq_grow, Sort.alloc_eq_grow, Sort.grow_grow]⟩
 obtain ⟨os, hos⟩ := hw
 have HOS := Lib.hid hos
 clear hos
 rw [show (w.alloc (.cells (pC h n) 48)).heap.size = w.heap.size + 1 by simp] at hb1
 have HL := Lib.hid hl
 have HL' := Lib.hid hl'
 clear hl hl'
 have hq0 : (Instr.loadAt 43 (.pointer (some ⟨w.heap.size, 0, none⟩))).run Tryz.prog ((w.alloc (.cells (pC h n) 48)).alloc (.cells (pC h' n') 48)) = _ := Agg.run_loadAt_sub hb0 (pC_hash h n) Tryz.underlying43 rfl (hC_info _ HL.out)
 have hq1 : (Instr.loadAt 43 (.pointer (some ⟨w.heap.size + 1, 0, none⟩))).run Tryz.prog ((w.alloc (.cells (pC h n) 48)).alloc (.cells (pC h' n') 48)) = _ := Agg.run_loadAt_sub hb1 (pC_hash h' n') Tryz.underlying43 rfl (hC_info _ HL'.out)
 have hqq : ∀ w, (binOp .eql 43 (.agg (hC h)) (.agg (hC h'))).run Tryz.prog w = .ok (.bool (h == h')) w := fun w => eql_hash _ _ HL.out HL'.out w
 cases hh : (h == h') with
 | true =>
  have hcm : cmpP h n h' n' = compareBytes n n' := by simp [cmpP, hh]
  have c0 : ((w.alloc (.cells (pC h n) 48)).alloc (.cells (pC h' n') 48)).cell? ⟨w.heap.size, 20, none⟩ = some (.string ⟨n.toArray⟩) := by rw [cell_of_row _ _ _ _ _ _ hb0, pC_name h n HL.out]
  have c1 : ((w.alloc (.cells (pC h n) 48)).alloc (.cells (pC h' n') 48)).cell? ⟨w.heap.size + 1, 20, none⟩ = some (.string ⟨n'.toArray⟩) := by rw [cell_of_row _ _ _ _ _ _ hb1, pC_name h' n' HL'.out]
  rw [hh] at hqq
  have HH := Lib.hid hh
  clear hh
  rw [hcm]
  clear hcm
  go_enter Tryz.func89, Tryz.ntmps89
  go_wp2_with (first | (with_reducible refine Agg.wpList_loadw 43 _ rfl rfl (.pointer (some ⟨w.heap.size, 0, none⟩)) rfl (.agg (hC h)) hq0 ?_) | (with_reducible refine Agg.wpList_loadw 43 _ rfl rfl (.pointer (some ⟨w.heap.size + 1, 0, none⟩)) rfl (.agg (hC h')) hq1 ?_) | (with_reducible refine Agg.wpList_eqlw 43 43 _ _ rfl rfl (hC h) (hC h') rfl rfl true (by kernel_rfl) hqq ?_))
  refine (cmpString_any _ _ _).mono ?_
  rintro e w1 ⟨rfl, rfl⟩
  go_wp2_with fail
  go_ret
  exact ⟨rfl, 0, os, HOS.out⟩
 | false =>
  have hcm : cmpP h n h' n' = compareBytes h h' := by simp [cmpP, hh]
  rw [hh] at hqq
  have HH := Lib.hid hh
  clear hh
  rw [hcm]
  clear hcm
  go_enter Tryz.func89, Tryz.ntmps89
  go_wp2_with (first | (with_reducible refine Agg.wpList_loadw 43 _ rfl rfl (.pointer (some ⟨w.heap.size, 0, none⟩)) rfl (.agg (hC h)) hq0 ?_) | (with_reducible refine Agg.wpList_loadw 43 _ rfl rfl (.pointer (some ⟨w.heap.size + 1, 0, none⟩)) rfl (.agg (hC h')) hq1 ?_) | (with_reducible refine Agg.wpList_eqlw 43 43 _ _ rfl rfl (hC h) (hC h') rfl rfl false (by kernel_rfl) hqq ?_))
  clear hq0 hq1 hqq
  generalize (w.alloc (.cells (pC h n) 48)).alloc (.cells (pC h' n') 48) = w0 at *
  have hcc : ∀ q, Calls Tryz.prog 130 #[.slice (some ⟨w.heap.size, 0, none⟩) 20 20, .slice (some ⟨w.heap.size + 1, 0, none⟩) 20 20] (w0.drewN q) fun e w' => e = .returned (.int .i64 (compareBytes h h')) ∧ w0.drewN q = w' := fun q => by
   have := bytesCompare_any (w0.drewN q) h h' w.heap.size 0 (w.heap.size + 1) 0 20 20 (fun j y hj => by rw [Nat.zero_add, World.cell?_drewN, cell_of_row _ _ _ _ _ _ hb0, pC_byte h n j y hj]) (fun j y hj => by rw [Nat.zero_add, World.cell?_drewN, cell_of_row _ _ _ _ _ _ hb1, pC_byte h' n' j y hj])
   rwa [HL.out, HL'.out] at this
  have hs := slice_hash
  simp only [Act.put, List.setIfInBounds_toArray, List.set_cons_succ, List.set_cons_zero]
  go_quiet ((go_at_call 130; refine (hcc _).mono ?_; rintro e w' ⟨rfl, rfl⟩; exact ⟨rfl, _, rfl⟩))
  go_wp2_with fail
  go_ret
  exact ⟨rfl, nq, os, by rw [HOS.out]; rfl⟩
end Go.Proofs.YtdebbmembkbniaaGreat
/-! slices.SortFunc at paths, by base.order. -/
namespace Go.Proofs.YtdebbmembkbniaaGreat
open Go.RowKit Pl Go.Sort
theorem cmpLays20 (blk off size : Nat) (w : World) : CmpLays Tryz.prog 89 #[] cells20 21 cmp20 blk off size w :=
 fun _ _ _ _ x y => order_grown x.1.1 x.1.2 y.1.1 y.1.2 x.2 y.2 _
theorem sort_any (d : Array P20) (blk off cap : Nat) (w : World) (hH : HoldsK cells20 21 w blk off d) (hblk : blk < w.heap.size) (hsz : d.size < 4611686018427387904) :
  Calls Tryz.prog 88 #[.slice (some ⟨blk, off, none⟩) d.size cap, .func (.func 89) #[] #[]] w fun e w' =>
   e = .returned (.tuple #[]) ∧ ∃ d' n os, PermIn 0 d.size d d' ∧ SortedIn lt20 0 d.size d' ∧ w' = sortWorldK cells20 21 w blk off n d' os := by
 have eg : ∀ args w, (callFunc 89 args).run Tryz.prog w = .ok (.enter 89 args) w := enters_of Tryz.func89 (by kernel_rfl) rfl
 exact AnyQ.slices_SortFunc Tryz.sortPath 21 (fun w => by kernel_rfl) (fun w => by kernel_rfl) cells20 cells20_length cells20_one cmp20 lt20_swo 89 #[] blk off cap d w eg (cmpLays20 blk off d.size w) hH hblk hsz
end Go.Proofs.YtdebbmembkbniaaGreat
/-! From a slice of the call's own to the sort and back. -/
namespace Go.Proofs.YtdebbmembkbniaaGreat
open Go.RowKit Pl Go.Sort
theorem flat_at (l : List P20) (t : Nat) (h : t < l.length * 21) : (flat l)[t]? = some ((cells20 (l.toArray[t / 21]!))[t % 21]!) := by
 have hq : t / 21 < l.length := by omega
 have hp : l[t / 21]? = some l[t / 21] := List.getElem?_eq_getElem hq
 have hc : t % 21 < (cells20 l[t / 21]).length := by rw [cells20_length]; omega
 have e := flat_get l (t / 21) l[t / 21] (t % 21) ((cells20 l[t / 21])[t % 21]) hp (by
  rw [← Array.getElem?_toList]
  exact List.getElem?_eq_getElem hc)
 rw [show t / 21 * 21 + t % 21 = t by omega] at e
 rw [e, getElem!_pos l.toArray (t / 21) (by simpa using hq)]
 simp only [List.getElem_toArray]
 rw [getElem!_pos _ (t % 21) hc]
theorem holdsK_of (w : World) (g off : Nat) (l : List P20) (h : ∀ j u, (flat l)[j]? = some u → w.cell? ⟨g, off + j, none⟩ = some u) (hf : ∀ j, j < l.length * 21 → w.frozen? ⟨g, off + j, none⟩ = false) : HoldsK cells20 21 w g off l.toArray := by
 intro j hj
 rw [size_flatK] at hj
 have hj' : j < l.length * 21 := by simpa using hj
 refine ⟨?_, hf j hj'⟩
 rw [h j _ (flat_at l j hj'), get_flatK _ _ _ _ (by simpa using hj')]
 rfl
theorem elems_of_holdsK (w : World) (g off cap : Nat) (l : List P20) (hg : g < w.heap.size) (h : HoldsK cells20 21 w g off l.toArray) : ElemsAt w (.slice (some ⟨g, off, none⟩) l.length cap) l := by
 refine .inr ⟨⟨g, off, none⟩, cap, rfl, hg, fun j u hj => ?_⟩
 rw [flat20] at hj
 rw [Agg.add_plain]
 have hlt : j < l.length * 21 := by rw [← flat_length]; exact (List.getElem?_eq_some_iff.1 hj).1
 have := (h j (by rw [size_flatK]; simpa using hlt)).1
 rw [get_flatK _ _ _ _ (by simpa using hlt)] at this
 rw [flat_at l j hlt] at hj
 rw [this, ← Option.some.inj hj]
 rfl
theorem putRow_below {B blk off : Nat} {a w : World} {d : Array P20} (h : Below B a w) (hB : B ≤ blk) : Below B a (putRowK cells20 21 w blk off d) := by
 refine h.trans ⟨rfl, rfl, rfl, ?_, fun k hk => ?_⟩
 ·show w.heap.size ≤ (w.heap.modify blk _).size
  simp
 ·show (w.heap.modify blk _)[k]? = w.heap[k]?
  rw [Array.getElem?_modify, if_neg (by omega)]
theorem grow_below {B : Nat} {a w : World} (os : Array Obj) (h : Below B a w) (hB : B ≤ w.heap.size) : Below B a (grow w os) := by
 refine h.trans ⟨rfl, rfl, rfl, ?_, fun k hk => ?_⟩
 ·show w.heap.size ≤ (w.heap ++ os).size
  simp
 ·show (w.heap ++ os)[k]? = w.heap[k]?
  exact Array.getElem?_append_left (by omega)
theorem putRow_row {w : World} {g off : Nat} {d : Array P20} {cur : Array Value} {t : TypeId} {fr : Nat × Nat} (hb : w.heap[g]? = some (.cells cur t fr)) : ∃ cur' : Array Value, (putRowK cells20 21 w g off d).heap[g]? = some (.cells cur' t fr) ∧ cur'.size = cur.size := by
 refine ⟨putCells id off (flatK cells20 21 d) cur, ?_, by simp [putCells]⟩
 show (w.heap.modify g _)[g]? = _
 rw [Array.getElem?_modify, if_pos rfl, hb]
 rfl
theorem sort_own (base : Nat) (D : List P20) (hD : D.Nodup) (hlen : D.length ≤ 1048576) (g cap : Nat) (w : World) (cur : Array Value) (hg : base ≤ g) (hbw : base ≤ w.heap.size) (hb : w.heap[g]? = some (.cells cur 48 (0, 0))) (htk : cur.toList.take (D.length * 21) = flat D) :
  Calls Tryz.prog 88 #[.slice (some ⟨g, 0, none⟩) D.length cap, .func (.func 89) #[] #[]] w fun e w' =>
   e = .returned (.tuple #[]) ∧ ∃ R, Rising R ∧ (∀ x, x ∈ R ↔ x ∈ D) ∧ (ElemsAt w' (.slice (some ⟨g, 0, none⟩) D.length cap) R ∧ ∃ cur' : Array Value, w'.heap[g]? = some (.cells cur' 48 (0, 0)) ∧ cur'.size = cur.size) ∧ RowKit.Below base w w' := by
 have hgl := Agg.heap_lt hb
 have hcells : ∀ j u, (flat D)[j]? = some u → w.cell? ⟨g, 0 + j, none⟩ = some u := fun j u hj => by
  rw [Nat.zero_add, cell_of_row _ _ _ _ _ _ hb]
  rw [← htk, List.getElem?_take] at hj
  split at hj
  ·simpa using hj
  ·cases hj
 have hH := holdsK_of w g 0 D hcells (fun j _ => frozen_of_row _ _ _ _ _ hb)
 have hs := sort_any D.toArray g 0 cap w hH hgl (by simp; omega)
 rw [List.size_toArray] at hs
 refine hs.mono fun e w' ⟨he, d', n, os, hp, hso, hw⟩ => ?_
 obtain ⟨hsz, _, hperm⟩ := hp
 have hsz' : d'.size = D.length := by simpa using hsz
 have hP : d'.toList.Perm D := by
  have e1 : (d'.extract 0 D.length).toList = d'.toList := by rw [← hsz']; simp
  have e2 : (D.toArray.extract 0 D.length).toList = D := by simp
  rw [e1, e2] at hperm
  exact hperm
 have hll : d'.toList.length = D.length := by simpa using hsz'
 have hd : d'.toList.toArray = d' := by simp
 have hH' : HoldsK cells20 21 w' g 0 d'.toList.toArray := by
  rw [hd, hw]
  have h1 : HoldsK cells20 21 (putRowK cells20 21 (Sort.ahead w n) g 0 d') g 0 d' := holdsK_putRowK cells20 21 (Sort.ahead w n) g 0 D.toArray d' (holdsK_ahead cells20 21 w n g 0 _ hH) (by simpa using hsz')
  exact holdsK_grow cells20 21 _ os g 0 d' (by show g < (w.heap.modify g _).size; simpa using hgl) h1
 have hB : RowKit.Below base w w' := by
  rw [hw]
  have h1 : RowKit.Below base w (Sort.ahead w n) := ⟨rfl, rfl, rfl, Nat.le_refl _, fun _ _ => rfl⟩
  exact grow_below os (putRow_below h1 hg) (by show base ≤ (w.heap.modify g _).size; simpa using hbw)
 have hC : ∃ cur' : Array Value, w'.heap[g]? = some (.cells cur' 48 (0, 0)) ∧ cur'.size = cur.size := by
  obtain ⟨cur', h1, h2⟩ := putRow_row (w := Sort.ahead w n) (off := 0) (d := d') (g := g) (cur := cur) (t := 48) (fr := (0, 0)) hb
  refine ⟨cur', ?_, h2⟩
  rw [hw]
  exact (Array.getElem?_append_left (Agg.heap_lt h1)).trans h1
 refine ⟨he, d'.toList, ?_, fun x => hP.mem_iff, ⟨?_, hC⟩, hB⟩
 ·refine rising_of_sorted _ (hP.nodup_iff.2 hD) ?_
  rw [List.pairwise_iff_getElem]
  intro i j hi hj hij
  have := hso i j (Nat.zero_le _) hij (by omega)
  rw [getElem!_pos d' j (by simpa using hj), getElem!_pos d' i (by simpa using hi)] at this
  simpa using this
 ·have := elems_of_holdsK w' g 0 cap d'.toList (Nat.lt_of_lt_of_le hgl hB.size) hH'
  rwa [hll] at this
end Go.Proofs.YtdebbmembkbniaaGreat
/-! A block made and laid full. -/
namespace Go.Proofs.YtdebbmembkbniaaGreat
open Go.RowKit Pl Go.Agg
theorem laid {w : World} {t : TypeId} (z c : Array Value) : ((w.alloc (.cells z t)).setRow w.heap.size c).heap[w.heap.size]? = some (.cells c t (0, 0)) ∧ Below w.heap.size w ((w.alloc (.cells z t)).setRow w.heap.size c) :=
 ⟨setRow_heap _ _ _ _ _ _ (heap_alloc_new w (.cells z t)), Agg.below_setRow ((Below.refl _ _).alloc (Nat.le_refl _) _) (Nat.le_refl _)⟩
end Go.Proofs.YtdebbmembkbniaaGreat
/-! base.Sorted: its paths once, rising. -/
namespace Go.Proofs.YtdebbmembkbniaaGreat
open Go.RowKit Pl Go.Mp Go.Agg
def once (l : List P20) : List P20 := l.foldl (fun D x => if x ∈ D then D else D ++ [x]) []
theorem once_snoc (l : List P20) (x : P20) : once (l ++ [x]) = if x ∈ once l then once l else once l ++ [x] := by
 unfold once
 rw [List.foldl_append]
 rfl
theorem snoc_ind {p : List P20 → Prop} (h0 : p []) (h1 : ∀ l x, p l → p (l ++ [x])) (l : List P20) : p l := by
 rw [← List.reverse_reverse l]
 induction l.reverse with
 | nil => exact h0
 | cons x r ih => rw [List.reverse_cons]; exact h1 _ _ ih
theorem mem_once (l : List P20) : ∀ x, x ∈ once l ↔ x ∈ l := by
 refine snoc_ind (p := fun l => ∀ x, x ∈ once l ↔ x ∈ l) ?_ ?_ l
 ·simp [once]
 ·intro l y ih
  intro x
  rw [once_snoc]
  split
  ·rename_i h
   rw [ih, List.mem_append, List.mem_singleton]
   constructor
   ·exact .inl
   ·rintro (h' | rfl)
    ·exact h'
    ·exact (ih _).1 h
  ·simp [ih]
theorem once_nodup (l : List P20) : (once l).Nodup := by
 refine snoc_ind (p := fun l => (once l).Nodup) ?_ ?_ l
 ·simp [once]
 ·intro l y ih
  rw [once_snoc]
  split
  ·exact ih
  ·rename_i h
   rw [List.nodup_append]
   exact ⟨ih, by simp, fun a ha b hb => by obtain rfl : b = y := (by simpa using hb); exact fun e => h (e ▸ ha)⟩
theorem once_le (l : List P20) : (once l).length ≤ l.length := by
 refine snoc_ind (p := fun l => (once l).length ≤ l.length) ?_ ?_ l
 ·simp [once]
 ·intro l y ih
  rw [once_snoc]
  split <;> simp <;> omega
theorem own_keep {w w' : World} {base : Nat} {e : TypeId} {n sz : Nat} {v : Value} {xs : List Value} (h : w.ownsRow base e sz v n xs) (hk : ∀ (g : Nat) (cur : Array Value) (t : TypeId) (fr : Nat × Nat), w.heap[g]? = some (Obj.cells cur t fr) → w'.heap[g]? = some (Obj.cells cur t fr)) : w'.ownsRow base e sz v n xs := by
 obtain ⟨h1, h2⟩ := h
 refine ⟨h1, ?_⟩
 rcases h2 with h2 | ⟨g, cap, cur, e1, e2, e3, e4⟩
 ·exact .inl h2
 ·exact .inr ⟨g, cap, cur, e1, e2, hk _ _ _ _ e3, e4⟩
theorem own_below {w w' : World} {base : Nat} {e : TypeId} {n sz : Nat} {v : Value} {xs : List Value} (h : w.ownsRow base e sz v n xs) (hb : Below w.heap.size w w') : w'.ownsRow base e sz v n xs :=
 own_keep h fun _ _ _ _ hg => Agg.keep' hb hg
theorem store_none (a : Addr) (w : World) : (storeCells a []).run Tryz.prog w = .ok () w := by simp [storeCells]
set_option maxRecDepth 100000 in
theorem slice_one (x : P20) (w : World) : (Instr.buildSlice 55 1 #[(0, pV x)]).run Tryz.prog w = .ok (.slice (some ⟨w.heap.size, 0, none⟩) 1 1) (w.alloc (.cells (pC x.1.1 x.1.2) 48)) := by
 have hz := pC_zero
 have hs := pC_info x.1.1 x.1.2 x.2
 cases hi : Tryz.prog.info? 48 with
 | none => rw [hi] at hz; cases hz
 | some ie =>
  rw [hi] at hz hs
  have hsz : ie.size = 21 := by
   have := Option.some.inj hs
   rw [pC_size, x.2] at this
   exact this
  refine run_buildSlice w 55 48 1 _ (pC x.1.1 x.1.2) ie (.agg (pC z20 [])) (by kernel_rfl) hi (Option.some.inj hz) (by rw [hsz]; decide) (by rw [hsz]; decide) ?_
  rw [hsz]
  show Instr.fill _ _ [(0, pV x)] = _
  rw [Agg.fill_cons (off := 0) (size := 21) rfl (by simp [pV, Value.cells, pC_size, x.2]) (by simp), Agg.fill_nil]
  congr 1
  apply Array.ext'
  simp [Agg.splice, pV, Value.cells, pC_size, x.2]
theorem map_not_cells {w : World} {b : Nat} {m : List (P20 × Unit)} (h : MapIs w b pV (fun _ => .agg #[]) m) {cur : Array Value} {t : TypeId} {fr : Nat × Nat} (hc : w.heap[b]? = some (Obj.cells cur t fr)) : False := by
 obtain ⟨es, c, hb, _⟩ := h
 rw [hb] at hc; cases hc
def nU : Unit → Value := fun _ => .agg #[]
theorem own_new {wr w2 w3 : World} {base b n sz : Nat} {e : TypeId} {v : Value} {xs : List Value} {m : List (P20 × Unit)} (h : wr.ownsRow base e sz v n xs) (hx : Below wr.heap.size wr w2) (hm : MapIs w2 b pV nU m) (hb : ButMap b w2 w3) (o : Obj) : (w3.alloc o).ownsRow base e sz v n xs :=
 own_keep h fun g cur t fr hg => by
  have h2 := Agg.keep' hx hg
  have hne : g ≠ b := fun e => map_not_cells hm (e ▸ h2)
  have h3 := (hb.other hne).trans h2
  exact (heap_alloc_old _ _ (Agg.heap_lt h3)).trans h3
theorem own_apart {w : World} {base b n sz : Nat} {e : TypeId} {v : Value} {xs : List Value} {m : List (P20 × Unit)} (h : w.ownsRow base e sz v n xs) (hm : MapIs w b pV nU m) : some b ≠ v.ownBlock ∧ ∀ k, v.ownBlock = some k → base ≤ k := by
 obtain ⟨_, ⟨rfl, _⟩ | ⟨g, cap, cur, rfl, hb, hc, _⟩⟩ := h
 ·exact ⟨by simp [Value.ownBlock], fun k hk => by simp [Value.ownBlock] at hk⟩
 ·refine ⟨fun e => ?_, fun k hk => ?_⟩
  ·have : b = g := by simpa [Value.ownBlock] using e
   subst this
   exact map_not_cells hm hc
  ·have : g = k := by simpa [Value.ownBlock] using hk
   omega
theorem mput_new (m : List (P20 × Unit)) (x : P20) (h : mget m x = none) : mput m x () = m ++ [(x, ())] := by
 induction m with
 | nil => rfl
 | cons p r ih =>
  by_cases e : x = p.1
  ·simp [mget, e] at h
  ·have h' : mget r x = none := by simpa [mget, e] using h
   simp [mput, e, ih h']
theorem new_cells (w3 : World) (x : P20) (j : Nat) (u : Value) (hj : (cells20 x)[j]? = some u) : (w3.alloc (.cells (pC x.1.1 x.1.2) 48)).cell? ((⟨w3.heap.size, 0, none⟩ : Addr).add j) = some u := by
 have hadd : (⟨w3.heap.size, 0, none⟩ : Addr).add j = ⟨w3.heap.size, 0 + j, none⟩ := by unfold Addr.add; split <;> simp_all
 rw [hadd, cell_of_row _ _ _ _ _ _ (heap_alloc_new w3 (.cells (pC x.1.1 x.1.2) 48))]
 simpa [cells20] using hj
theorem zeroU (w : World) : (zeroValue 169).run Tryz.prog w = .ok (.agg #[]) w := by kernel_rfl
theorem mget_once_some (D : List P20) (x : P20) (h : x ∈ D) : mget (D.map fun p => (p, ())) x = some () := by
 unfold mget
 cases hf : (D.map fun p => (p, ())).find? (fun p => decide (x = p.1)) with
 | some y => rfl
 | none =>
  rw [List.find?_eq_none] at hf
  exact absurd (hf (x, ()) (List.mem_map.2 ⟨x, h, rfl⟩)) (by simp)
theorem mget_once_none (D : List P20) (x : P20) (h : ¬ x ∈ D) : mget (D.map fun p => (p, ())) x = none := by
 unfold mget
 rw [List.find?_eq_none.2]
 ·rfl
 ·intro y hy
  obtain ⟨p, hp, rfl⟩ := List.mem_map.1 hy
  simp only [decide_eq_true_eq]
  rintro rfl
  exact h hp
theorem own_of_elems {w : World} {base g n cap : Nat} {cur : Array Value} {R : List P20} (h : ElemsAt w (.slice (some ⟨g, 0, none⟩) n cap) R) (hg : base ≤ g) (hc : w.heap[g]? = some (.cells cur 48 (0, 0))) (hle : n ≤ cap) (hmx : cap ≤ maxLen) (hcs : cur.size = cap * 21) : Own E20 base w (.slice (some ⟨g, 0, none⟩) n cap) R := by
 rcases h with ⟨p, c, hv, rfl⟩ | ⟨p, c, hv, hp, hcell⟩
 ·simp only [Value.slice.injEq] at hv
  obtain ⟨rfl, rfl, rfl⟩ := hv
  exact ⟨by simp [Elem.flat], .inr ⟨g, _, cur, rfl, hg, hc, hle, hmx, hcs, by simp [Elem.flat]⟩⟩
 ·simp only [Value.slice.injEq, Option.some.injEq] at hv
  obtain ⟨rfl, rfl, rfl⟩ := hv
  have hfl : (E20.flat R).length = R.length * 21 := E20.flat_length R
  refine ⟨hfl, .inr ⟨g, _, cur, rfl, hg, hc, hle, hmx, hcs, ?_⟩⟩
  apply List.ext_getElem?
  intro j
  by_cases hj : j < R.length * 21
  ·have hjf : j < (E20.flat R).length := by rw [hfl]; exact hj
   have h1 := hcell j _ (List.getElem?_eq_getElem hjf)
   rw [Agg.add_plain, cell_of_row _ _ _ _ _ _ hc, Nat.zero_add] at h1
   rw [List.getElem?_take, if_pos (by exact hj), List.getElem?_eq_getElem hjf, ← h1]
   simp
  ·rw [List.getElem?_eq_none (by rw [List.length_take]; exact Nat.le_trans (Nat.min_le_left _ _) (by exact Nat.le_of_not_lt hj)), List.getElem?_eq_none (by rw [hfl]; omega)]
set_option maxRecDepth 100000 in
set_option maxHeartbeats 1000000 in
theorem sorted_some (v : Value) (l : List P20) (hlen : l.length ≤ 1048576) (hl0 : l ≠ []) (w : World) (he : ElemsAt w v l) :
  Calls Tryz.prog 56 #[v] w fun e w' => ∃ v R, e = .returned v ∧ Rising R ∧ (∀ x, x ∈ R ↔ x ∈ l) ∧ Own E20 w.heap.size w' v R ∧ Below w.heap.size w w' := by
 go_enter Tryz.func56, Tryz.ntmps56
 have hmm := @run_makeMap Tryz.prog
 have hlv := fun W => elems_len he W
 go_wp2_with fail
 clear hmm
 have HE := Lib.hid he
 clear he
 go_loopw [2, 11] (fun out i wr => ∃ k : Nat, k ≤ l.length ∧ i = .int .i64 k ∧ wr.ownsRow w.heap.size 48 21 out (once (l.take k)).length (flat (once (l.take k))) ∧ MapIs wr w.heap.size pV nU ((once (l.take k)).map fun p => (p, ())) ∧ Below w.heap.size w wr)
  (fun _ i _ => l.length - (intOf i).toNat)
 case atStart => exact ⟨0, by omega, rfl, ⟨rfl, .inl ⟨rfl, rfl⟩⟩, MapIs.empty _ _ _, (Below.refl _ w).alloc (Nat.le_refl _) _⟩
 case round =>
  obtain ⟨k, hk, rfl, hown, hm, hw⟩ := hrel
  by_cases hlt : k < l.length
  ·have hd : decide ((k : Int) < (l.length : Int)) = true := by simp; omega
   have hx : l[k]? = some l[k] := List.getElem?_eq_getElem hlt
   generalize l[k] = x at hx
   obtain ⟨p, hadr, hldL, _⟩ := elem_at (HE.out.below hw) k x hx
   have hld := hldL.now
   clear hldL
   have HX := Lib.hid hx
   have HOWN := Lib.hid hown
   have HMP := Lib.hid hm
   clear hx hown hm
   have hst := store_none
   have hz := heap_alloc_new wr (.cells (pC z20 []) 48)
   have hsz : Hid ((pC z20 []).size = (pC x.1.1 x.1.2).size) := Lib.hid (by rw [pC_size, pC_size, x.2]; rfl)
   obtain ⟨h1, hx1⟩ := laid (w := wr) (t := 48) (pC z20 []) (pC x.1.1 x.1.2)
   have hm1 := HMP.out.keep (hx1.block _ HMP.out.lt)
   have HM1 := Lib.hid hm1
   clear hm1
   by_cases hin : x ∈ once (l.take k)
   ·have hmg : mget ((once (l.take k)).map fun p => (p, ())) x = some () := mget_once_some _ _ hin
    go_wp2_with (first | (with_reducible refine Agg.wpList_loadw 48 _ rfl rfl (.pointer (some p)) rfl (.agg (pC x.1.1 x.1.2)) hld ?_) | (with_reducible refine Agg.wpList_alloc_row rfl 48 rfl (pC z20 []) pC_zero ?_) | (with_reducible refine Agg.wpList_set_row rfl rfl 48 _ _ rfl wr.heap.size (pC x.1.1 x.1.2) rfl rfl 48 _ hz (pC_info _ _ x.2) hsz.out (pC_one _ _) ?_) | (with_reducible refine wpList_load_row rfl 48 _ rfl wr.heap.size rfl 48 _ (0, 0) _ h1 pC_under rfl (pC_info _ _ x.2) ?_) | (at_lookup; refine Mp.wpList_lookup_hit rfl _ _ 168 48 169 rfl Tryz.underlying168 path_key zeroU rfl HM1.out x rfl () hmg ?_; simp only [nU]))
    go_wp2_with fail
    go_roundw
    case rel =>
     refine ⟨k + 1, by omega, by go_num, ?_, ?_, ?_⟩
     ·rw [List.take_add_one, HX.out]
      simp only [Option.toList_some]
      rw [once_snoc, if_pos hin]
      exact own_below HOWN.out (hx1.alloc hx1.size _)
     ·rw [List.take_add_one, HX.out]
      simp only [Option.toList_some]
      rw [once_snoc, if_pos hin]
      exact HM1.out.keep (heap_alloc_old _ _ HM1.out.lt)
     ·exact (belowThen hw (Nat.le_refl _) hx1).alloc (Nat.le_trans hw.size hx1.size) _
    case measure => simp [intOf]; omega
   ·have hmg : mget ((once (l.take k)).map fun p => (p, ())) x = none := mget_once_none _ _ hin
    have hu54 : Tryz.prog.underlying 55 = some (.slice 48) := by kernel_rfl
    obtain ⟨ie, hie0⟩ := info_path
    have hie := Lib.hid hie0
    clear hie0
    have hzc : (Value.agg (pC z20 [])).cells.size = 21 := by simp [Value.cells, pC_size, z20_length]
    have hol := once_le (l.take k)
    have hol2 : (l.take k).length ≤ l.length := by simp; omega
    have hmx : (once (l.take k)).length + 1 ≤ maxLen := by simp only [maxLen]; omega
    have hby : ((once (l.take k)).length + 1) * 40 ≤ 140737488355328 := by omega
    have hlt1 : wr.heap.size < ((wr.alloc (.cells (pC z20 []) 48)).setRow wr.heap.size (pC x.1.1 x.1.2)).heap.size := Agg.heap_lt h1
    have h2 : (((wr.alloc (.cells (pC z20 []) 48)).setRow wr.heap.size (pC x.1.1 x.1.2)).alloc (.cells #[] 169)).heap[wr.heap.size]? = _ := (heap_alloc_old _ _ hlt1).trans h1
    have HM2 : Hid (MapIs (((wr.alloc (.cells (pC z20 []) 48)).setRow wr.heap.size (pC x.1.1 x.1.2)).alloc (.cells #[] 169)) w.heap.size pV nU ((once (l.take k)).map fun p => (p, ()))) := Lib.hid (HM1.out.keep (heap_alloc_old _ _ HM1.out.lt))
    have hx2 : Below wr.heap.size wr (((wr.alloc (.cells (pC z20 []) 48)).setRow wr.heap.size (pC x.1.1 x.1.2)).alloc (.cells #[] 169)) := hx1.alloc hx1.size _
    have hne : wr.heap.size ≠ w.heap.size := by have := HMP.out.lt; omega
    go_wp2_with (first | (with_reducible refine Agg.wpList_loadw 48 _ rfl rfl (.pointer (some p)) rfl (.agg (pC x.1.1 x.1.2)) hld ?_) | (with_reducible refine Agg.wpList_alloc_row rfl 48 rfl (pC z20 []) pC_zero ?_) | (with_reducible refine Agg.wpList_set_row rfl rfl 48 _ _ rfl wr.heap.size (pC x.1.1 x.1.2) rfl rfl 48 _ hz (pC_info _ _ x.2) hsz.out (pC_one _ _) ?_) | (with_reducible refine wpList_load_row rfl 48 _ rfl wr.heap.size rfl 48 _ (0, 0) _ h1 pC_under rfl (pC_info _ _ x.2) ?_) | (with_reducible refine wpList_load_row rfl 48 _ rfl wr.heap.size rfl 48 _ (0, 0) _ h2 pC_under rfl (pC_info _ _ x.2) ?_) | (with_reducible refine wpList_load_row rfl 48 _ rfl wr.heap.size rfl 48 _ (0, 0) _ h3 pC_under rfl (pC_info _ _ x.2) ?_) | (at_lookup; refine Mp.wpList_lookup_miss rfl _ _ 168 48 169 rfl Tryz.underlying168 path_key zeroU rfl HM1.out x rfl hmg ?_) | (at_mapUpdate; refine Mp.wpList_mapUpdate rfl rfl _ _ _ 168 48 169 rfl Tryz.underlying168 path_key rfl HM2.out x rfl () rfl ?_; intro w3 hm3 hb3; have h3 := (hb3.other hne).trans h2) | (with_reducible refine Agg.wpList_buildSlice1 55 1 0 _ rfl rfl (pV x) rfl _ _ (slice_one x _) ?_) | (at_builtin; refine walk_stop ?_))
    refine ⟨?_, trivial⟩
    refine wpList_append_own _ rfl _ _ 55 rfl w.heap.size 48 ie _ 21 40 hu54 hie.out.1 hie.out.2.1 hie.out.2.2.1 hie.out.2.2.2 hzc (by decide) _ _ _ rfl (own_new HOWN.out hx2 HM2.out hb3 _) ⟨w3.heap.size, 0, none⟩ 1 1 (cells20 x) rfl (cells20_length x) (new_cells w3 x) (cells20_one x) hmx hby ?hbs ?_
    case hbs => have h5 := hb3.size; have h6 := hx2.size; have h7 := hw.size; simp only [World.size_alloc] at *; omega
    intro v5 w5 ho5 hg5 _
    go_wp2_with fail
    go_roundw
    case rel =>
     have hon : once (l.take (k + 1)) = once (l.take k) ++ [x] := by
      rw [List.take_add_one, HX.out]
      simp only [Option.toList_some]
      rw [once_snoc, if_neg hin]
     refine ⟨k + 1, by omega, by go_num, ?_, ?_, ?_⟩
     ·rw [hon, flat_append, List.length_append]
      simpa [flat] using ho5
     ·rw [hon, List.map_append]
      rw [mput_new _ _ hmg] at hm3
      have hm4 := hm3.keep (heap_alloc_old w3 (.cells (pC x.1.1 x.1.2) 48) hm3.lt)
      exact hm4.keep (hg5.block _ hm4.lt (own_apart (own_new HOWN.out hx2 HM2.out hb3 _) hm4).1)
     ·have hm4 := hm3.keep (heap_alloc_old w3 (.cells (pC x.1.1 x.1.2) 48) hm3.lt)
      have hb4 : Below w.heap.size w (w3.alloc (.cells (pC x.1.1 x.1.2) 48)) := (hb3.below (belowThen hw (Nat.le_refl _) hx2) (Nat.le_refl _)).alloc (Nat.le_of_lt hm3.lt) _
      exact hb4.grown hg5 hb4.size (own_apart (own_new HOWN.out hx2 HM2.out hb3 _) hm4).2
    case measure => simp [intOf]; omega
  ·obtain rfl : k = l.length := by omega
   go_wp2_with fail
   rw [List.take_length] at hown
   have hne : (once l).length ≠ 0 := by
    intro h0
    obtain ⟨y, hy⟩ := List.exists_mem_of_ne_nil l hl0
    have := (mem_once l y).2 hy
    rw [List.length_eq_zero_iff] at h0
    rw [h0] at this
    cases this
   obtain ⟨hfl, ⟨_, h0⟩ | ⟨g', cap', cur, rfl, hgb, hcur, hle, hmx, hcs, htk⟩⟩ := hown
   ·exact absurd h0 hne
   refine (sort_own w.heap.size (once l) (once_nodup l) (Nat.le_trans (once_le l) hlen) g' cap' wr cur hgb hw.size hcur htk).mono ?_
   rintro e w1 ⟨rfl, R, hR, hmem, ⟨hel, cur', hc1, hc2⟩, hb1⟩
   go_wp2_with fail
   go_ret
   exact ⟨_, R, rfl, hR, fun x => (hmem x).trans (mem_once l x), own_of_elems hel hgb hc1 hle hmx (hc2.trans hcs), hw.trans hb1⟩
end Go.Proofs.YtdebbmembkbniaaGreat
/-! base.Sorted at every slice of paths. -/
namespace Go.Proofs.YtdebbmembkbniaaGreat
open Go.RowKit Pl Go.Mp Go.Agg
theorem sort_none (p : Option Addr) (cap : Nat) (fv : Value) (w : World) :
  Calls Tryz.prog 88 #[.slice p 0 cap, fv] w fun e w' => e = .returned (.tuple #[]) ∧ w' = w := AnyF.slices_SortFunc_none Tryz.sortPath p cap fv w
set_option maxRecDepth 100000 in
theorem sorted_none (a : Option Addr) (c : Nat) (w : World) :
  Calls Tryz.prog 56 #[.slice a 0 c] w fun e w' => e = .returned (.slice none 0 0) ∧ Below w.heap.size w w' := by
 have hmm := @run_makeMap Tryz.prog
 go_enter Tryz.func56, Tryz.ntmps56
 go_wp2_with fail
 refine wp_loop_rounds 1 ?_
 rw [rounds_succ]
 go_wp2_with fail
 refine (sort_none _ _ _ _).mono ?_
 rintro e w1 ⟨rfl, rfl⟩
 go_wp2_with fail
 go_ret
 exact ⟨rfl, (Below.refl _ w).alloc (Nat.le_refl _) _⟩
theorem sortedO_any (v : Value) (l : List P20) (hlen : l.length ≤ 1048576) (w : World) (he : ElemsAt w v l) :
  Calls Tryz.prog 56 #[v] w fun e w' => ∃ v R, e = .returned v ∧ Rising R ∧ (∀ x, x ∈ R ↔ x ∈ l) ∧ Own E20 w.heap.size w' v R ∧ Below w.heap.size w w' := by
 by_cases h0 : l = []
 ·subst h0
  obtain ⟨p, c, rfl⟩ := he.form
  exact (sorted_none _ c w).mono fun e w' ⟨h1, h2⟩ => ⟨_, [], h1, List.Pairwise.nil, fun _ => Iff.rfl, Own.nil _ _ _, h2⟩
 ·exact sorted_some v l hlen h0 w he
end Go.Proofs.YtdebbmembkbniaaGreat
/-! The least path above the last one: the plain law of spenceref03.Sorted. -/
namespace Go.Proofs.YtdebbmembkbniaaGreat
open Pl
def above (out : List P20) (x : P20) : Bool := match out.getLast? with
 | none => true
 | some y => lt20 y x
def nb (out : List P20) (b : Option P20) (x : P20) : Option P20 :=
 if (above out x && (match b with | none => true | some y => lt20 x y)) = true then some x else b
def pick (out l : List P20) : Option P20 := l.foldl (nb out) none
theorem pick_nil (out : List P20) : pick out [] = none := rfl
theorem pick_snoc (out l : List P20) (x : P20) : pick out (l ++ [x]) = nb out (pick out l) x := by simp [pick, List.foldl_append]
theorem list_snoc {p : List P20 → Prop} (h0 : p []) (h1 : ∀ l x, p l → p (l ++ [x])) (l : List P20) : p l := by
 rw [← List.reverse_reverse l]
 induction l.reverse with
 | nil => exact h0
 | cons x r ih => rw [List.reverse_cons]; exact h1 _ _ ih
theorem nb_no (out : List P20) (b : Option P20) (x : P20) (h : above out x = false) : nb out b x = b := by simp [nb, h]
theorem nb_first (out : List P20) (x : P20) (h : above out x = true) : nb out none x = some x := by simp [nb, h]
theorem nb_less (out : List P20) (b x : P20) (h : above out x = true) (h2 : lt20 x b = true) : nb out (some b) x = some x := by simp [nb, h, h2]
theorem nb_more (out : List P20) (b x : P20) (h2 : lt20 x b = false) : nb out (some b) x = some b := by simp [nb, h2]
theorem pick_spec (out l : List P20) : (pick out l = none → ∀ x ∈ l, above out x = false) ∧ (∀ b, pick out l = some b → b ∈ l ∧ above out b = true ∧ ∀ x ∈ l, above out x = true → lt20 x b = false) := by
 refine list_snoc (p := fun l => (pick out l = none → ∀ x ∈ l, above out x = false) ∧ (∀ b, pick out l = some b → b ∈ l ∧ above out b = true ∧ ∀ x ∈ l, above out x = true → lt20 x b = false)) ?_ ?_ l
 ·exact ⟨fun _ x hx => by simp at hx, fun b h => by simp [pick_nil] at h⟩
 ·intro l x ⟨ih1, ih2⟩
  rw [pick_snoc]
  cases ha : above out x with
  | false =>
   rw [nb_no _ _ _ ha]
   refine ⟨fun h y hy => ?_, fun b h => ?_⟩
   ·rcases List.mem_append.1 hy with hy | hy
    ·exact ih1 h y hy
    ·obtain rfl : y = x := by simpa using hy
     exact ha
   ·obtain ⟨h1, h2, h3⟩ := ih2 b h
    refine ⟨List.mem_append_left _ h1, h2, fun y hy hya => ?_⟩
    rcases List.mem_append.1 hy with hy | hy
    ·exact h3 y hy hya
    ·obtain rfl : y = x := by simpa using hy
     rw [ha] at hya; cases hya
  | true =>
   cases hp : pick out l with
   | none =>
    rw [nb_first _ _ ha]
    refine ⟨fun h => by simp at h, fun b h => ?_⟩
    obtain rfl : x = b := by simpa using h
    refine ⟨by simp, ha, fun y hy hya => ?_⟩
    rcases List.mem_append.1 hy with hy | hy
    ·have := ih1 hp y hy
     rw [this] at hya; cases hya
    ·obtain rfl : y = x := by simpa using hy
     exact lt20_irrefl _
   | some c =>
    obtain ⟨h1, h2, h3⟩ := ih2 c hp
    cases hl : lt20 x c with
    | true =>
     rw [nb_less _ _ _ ha hl]
     refine ⟨fun h => by simp at h, fun b h => ?_⟩
     obtain rfl : x = b := by simpa using h
     refine ⟨by simp, ha, fun y hy hya => ?_⟩
     rcases List.mem_append.1 hy with hy | hy
     ·cases hc : lt20 y x with
      | false => rfl
      | true =>
       have := lt20_trans _ _ _ hc hl
       rw [h3 y hy hya] at this; cases this
     ·obtain rfl : y = x := by simpa using hy
      exact lt20_irrefl _
    | false =>
     rw [nb_more _ _ _ hl]
     refine ⟨fun h => by simp at h, fun b h => ?_⟩
     obtain rfl : c = b := by simpa using h
     refine ⟨List.mem_append_left _ h1, h2, fun y hy hya => ?_⟩
     rcases List.mem_append.1 hy with hy | hy
     ·exact h3 y hy hya
     ·obtain rfl : y = x := by simpa using hy
      exact hl
structure Told (l D : List P20) : Prop where
 rise : Rising D
 sub : ∀ x ∈ D, x ∈ l
 rest : ∀ y ∈ l, y ∈ D ∨ above D y = true
theorem Told.start (l : List P20) : Told l [] := ⟨List.Pairwise.nil, fun _ h => by simp at h, fun _ _ => .inr rfl⟩
theorem rising_last {D : List P20} {y x : P20} (h : Rising (D ++ [y])) (hx : x ∈ D) : lt20 x y = true := by
 rw [Rising, List.pairwise_append] at h
 exact h.2.2 x hx y (by simp)
theorem above_snoc (D : List P20) (y x : P20) : above (D ++ [y]) x = lt20 y x := by simp [above]
theorem above_all {D : List P20} (h : Rising D) {b : P20} (ha : above D b = true) : ∀ x ∈ D, lt20 x b = true := by
 intro x hx
 refine list_snoc (p := fun D => Rising D → above D b = true → x ∈ D → lt20 x b = true) ?_ ?_ D h ha hx
 ·intro _ _ h; simp at h
 ·intro D y _ h ha hx
  rw [above_snoc] at ha
  rcases List.mem_append.1 hx with hx | hx
  ·exact lt20_trans _ _ _ (rising_last h hx) ha
  ·obtain rfl : x = y := by simpa using hx
   exact ha
theorem Told.next {l D : List P20} (h : Told l D) {b : P20} (hp : pick D l = some b) : Told l (D ++ [b]) := by
 obtain ⟨h1, h2, h3⟩ := (pick_spec D l).2 b hp
 refine ⟨?_, ?_, ?_⟩
 ·rw [Rising, List.pairwise_append]
  exact ⟨h.rise, by simp, fun x hx y hy => by obtain rfl : y = b := (by simpa using hy); exact above_all h.rise h2 x hx⟩
 ·intro x hx
  rcases List.mem_append.1 hx with hx | hx
  ·exact h.sub x hx
  ·obtain rfl : x = b := by simpa using hx
   exact h1
 ·intro y hy
  rcases h.rest y hy with hd | ha
  ·exact .inl (List.mem_append_left _ hd)
  ·have hl := h3 y hy ha
   by_cases e : y = b
   ·exact .inl (by simp [e])
   ·exact .inr (by rw [above_snoc]; exact lt20_total _ _ e hl)
theorem Told.done {l D : List P20} (h : Told l D) (hp : pick D l = none) (x : P20) : x ∈ D ↔ x ∈ l := by
 refine ⟨h.sub x, fun hx => ?_⟩
 rcases h.rest x hx with hd | ha
 ·exact hd
 ·rw [(pick_spec D l).1 hp x hx] at ha; cases ha
theorem length_le_of_sub : ∀ (D l : List P20), D.Nodup → (∀ x ∈ D, x ∈ l) → D.length ≤ l.length
 | [], _, _, _ => by simp
 | x :: D, l, hn, hs => by
  rw [List.nodup_cons] at hn
  have hx := hs x (by simp)
  have ih := length_le_of_sub D (l.erase x) hn.2 (fun y hy => (List.mem_erase_of_ne (fun (e : y = x) => hn.1 (by rw [← e]; exact hy))).2 (hs y (by simp [hy])))
  rw [List.length_erase_of_mem hx] at ih
  have := List.length_pos_of_mem hx
  simp only [List.length_cons]; omega
theorem Told.length {l D : List P20} (h : Told l D) : D.length ≤ l.length := by
 refine length_le_of_sub D l ?_ h.sub
 refine List.Pairwise.imp ?_ h.rise
 intro a b hab e
 subst e
 rw [lt20_irrefl] at hab; cases hab
def piC : Option P20 → Array Value
 | none => pC z20 []
 | some b => pC b.1.1 b.1.2
end Go.Proofs.YtdebbmembkbniaaGreat
