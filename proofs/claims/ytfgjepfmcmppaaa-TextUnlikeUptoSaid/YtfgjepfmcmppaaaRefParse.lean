/- spenceref03.Parse: the same answer as base.Parse. -/
import Derived.Test.YtfgjepfmcmppaaaParse
import Derived.Test.YtfgjepfmcmppaaaAgg2
namespace Go.Proofs.Ytfgjepfmcmppaaa
open Go.RowKit Pl Go.Mp Go.Agg
theorem pathBuilt : ∀ parts, Try.prog.built 40 parts = Instr.fill (#[(0, 20), (20, 1)][·]?) (pC z20 []) parts := fun _ => by kernel_rfl
theorem pC_splice0 (h h' n : List UInt8) (hl : h.length = 20) (hl' : h'.length = 20) : splice (pC h n) 0 (hC h') = pC h' n := pC_setHash h h' n hl hl'
theorem pC_splice1 (h n n' : List UInt8) (hl : h.length = 20) : splice (pC h n) 20 #[.string ⟨n'.toArray⟩] = pC h n' := by
  apply Array.ext'
  simp [splice, pC, hC, Lib.byteCells, hl]
theorem build_path (h n : List UInt8) (hl : h.length = 20) (w : World) : (Instr.build 40 #[(0, .agg (hC h)), (1, .string ⟨n.toArray⟩)]).run Try.prog w = .ok (.agg (pC h n)) w := by
  refine run_build w _ _ _ ?_
  rw [pathBuilt]
  rw [fill_cons (off := 0) (size := 20) rfl (by simp [Value.cells, hC_size, hl]) (by rw [pC_size, z20_length]; omega)]
  rw [fill_cons (off := 20) (size := 1) rfl rfl (by rw [splice_size _ _ _ (by simp [Value.cells, hC_size, pC_size, z20_length, hl]), pC_size, z20_length]; omega)]
  rw [fill_nil]
  exact congrArg some (by simp only [Value.cells]; rw [pC_splice0 _ _ _ z20_length hl, pC_splice1 _ _ _ hl])
theorem build_zeroPath (w : World) : (Instr.build 40 #[]).run Try.prog w = .ok (.agg (pC z20 [])) w := by kernel_rfl
theorem ext_from (s : List UInt8) (i : Nat) : ByteArray.extract ⟨s.toArray⟩ i s.length = ⟨(s.drop i).toArray⟩ := by rw [Agg.bytes_extract, List.take_length]
theorem ext_to (s : List UInt8) (i : Nat) : ByteArray.extract ⟨s.toArray⟩ 0 i = ⟨(s.take i).toArray⟩ := by rw [Agg.bytes_extract, List.drop_zero]
set_option maxRecDepth 100000 in
set_option maxHeartbeats 1000000 in
theorem refParse_any (s : List UInt8) (hs : s.length ≤ 9223372036854775807) (w : World) :
    Calls Try.prog 28 #[.string ⟨s.toArray⟩] w fun e w' => e = .returned (.tuple #[.agg (pC (parseH s) (parseN s)), .int .i64 (parseE s)]) ∧ Below w.heap.size w w' := by
  have hsz := Agg.bytes_size s
  have hlen : ∀ w, (Builtin.len_ #[9] 3 #[.string ⟨s.toArray⟩]).run Try.prog w = .ok (.int .i64 (s.length : Int)) w := fun w => by rw [run_len_string w 9 3 _ Try.underlying9, hsz]; rfl
  have HS := Lib.hid hsz
  clear hsz
  have hb := heap_alloc_new w (.cells (pC z20 []) 40)
  have hpr := parse_ref s
  have HR := Lib.hid hpr
  clear hpr
  by_cases h34 : 34 ≤ s.length
  · have hd : decide ((s.length : Int) < 34) = false := by simp; omega
    have hix : ∀ w, (Instr.index 9 (.string ⟨s.toArray⟩) (.int .i64 32)).run Try.prog w = .ok (.int .u8 ((s[32]?.getD 0).toNat : Int)) w := fun w => Agg.run_index_str (i := 32) w Try.underlying9 (by simp [List.getElem?_eq_getElem (show 32 < s.length by omega)])
    cases h45 : (((s[32]?.getD 0).toNat : Int) != 45) with
    | true =>
      have hp : parseH s = z20 ∧ parseN s = [] ∧ parseE s = 4 := by
        have h45' : (s[32]?.getD 0 == 45) = false := by
          cases h : (s[32]?.getD 0 == 45) with
          | false => rfl
          | true => rw [beq_iff_eq.1 h] at h45; simp at h45
        have : parse s = none := by rw [HR.out, h45']; simp
        simp [parseH, parseN, parseE, this]
      have HP := Lib.hid hp
      clear hp
      go_enter Try.func28, Try.ntmps28
      go_wp2_with (first | (with_reducible refine Agg.wpList_alloc_row rfl 40 rfl (pC z20 []) pC_zero ?_) | (with_reducible refine Agg.wpList_build_zero rfl 40 rfl (.agg (pC z20 [])) build_zeroPath ?_) | (with_reducible refine Agg.wpList_set_row rfl rfl 40 _ _ rfl w.heap.size (pC z20 []) rfl rfl 40 _ hb (pC_info _ _ z20_length) rfl (pC_one _ _) ?_))
      exact Agg.post_row_tmp rfl rfl rfl (setRow_heap _ _ _ _ _ _ hb) pC_under rfl (pC_info _ _ z20_length) rfl ⟨by rw [HP.out.1, HP.out.2.1, HP.out.2.2]; rfl, Agg.below_setRow ((Below.refl _ _).alloc (Nat.le_refl _) _) (Nat.le_refl _)⟩
    | false =>
      have h45' : (s[32]?.getD 0 == 45) = true := by
        have : ((s[32]?.getD 0).toNat : Int) = 45 := by simpa using h45
        rw [beq_iff_eq, ← UInt8.toNat_inj]; simp; omega
      have H45 := Lib.hid h45'
      clear h45'
      have hdl : (s.drop 33).length ≤ 9223372036854775807 := by simp; omega
      cases hn : isName (s.drop 33) with
      | false =>
        have hp : parseH s = z20 ∧ parseN s = [] ∧ parseE s = 4 := by
          have : parse s = none := by rw [HR.out, hn]; simp
          simp [parseH, parseN, parseE, this]
        have HP := Lib.hid hp
        clear hp
        go_enter Try.func28, Try.ntmps28
        go_wp2_with (first | (with_reducible refine Agg.wpList_alloc_row rfl 40 rfl (pC z20 []) pC_zero ?_))
        rw [ext_from]
        refine (refName_any _ hdl _).mono ?_
        rintro e w1 ⟨rfl, rfl⟩
        rw [hn]
        go_wp2_with (first | (with_reducible refine Agg.wpList_build_zero rfl 40 rfl (.agg (pC z20 [])) build_zeroPath ?_) | (with_reducible refine Agg.wpList_set_row rfl rfl 40 _ _ rfl w.heap.size (pC z20 []) rfl rfl 40 _ hb (pC_info _ _ z20_length) rfl (pC_one _ _) ?_))
        exact Agg.post_row_tmp rfl rfl rfl (setRow_heap _ _ _ _ _ _ hb) pC_under rfl (pC_info _ _ z20_length) rfl ⟨by rw [HP.out.1, HP.out.2.1, HP.out.2.2]; rfl, Agg.below_setRow ((Below.refl _ _).alloc (Nat.le_refl _) _) (Nat.le_refl _)⟩
      | true =>
        go_enter Try.func28, Try.ntmps28
        go_wp2_with (first | (with_reducible refine Agg.wpList_alloc_row rfl 40 rfl (pC z20 []) pC_zero ?_))
        rw [ext_from]
        refine (refName_any _ hdl _).mono ?_
        rintro e w1 ⟨rfl, rfl⟩
        rw [hn]
        go_wp2_with fail
        rw [ext_to]
        refine (refHash_any _ _).mono ?_
        rintro e w1 ⟨rfl, hw1⟩
        have hb1 := Agg.keep' hw1 hb
        have hw : Below w.heap.size w w1 := ((Below.refl _ _).alloc (Nat.le_refl _) _).trans (hw1.mono (by simp))
        have hlt : w.heap.size < w1.heap.size := Agg.heap_lt hb1
        clear hw1 hb
        cases hh : Pl.hash (s.take 32) with
        | none =>
          have he : hashE (s.take 32) = 4 := by simp [hashE, hh]
          have hz : hashH (s.take 32) = z20 := by simp [hashH, hh]
          have hp : parseH s = z20 ∧ parseN s = [] ∧ parseE s = 4 := by
            have : parse s = none := by rw [HR.out, hh]; simp
            simp [parseH, parseN, parseE, this]
          have HP := Lib.hid hp
          rw [he, hz]
          clear hp he hz
          have hb2 : (w1.alloc (.cells (hC z20) 38)).heap[w.heap.size]? = _ := (heap_alloc_old _ _ hlt).trans hb1
          have hb3 := heap_alloc_new w1 (.cells (hC z20) 38)
          have hb4 : ((w1.alloc (.cells (hC z20) 38)).setRow w1.heap.size (hC z20)).heap[w.heap.size]? = _ := (setRow_other _ _ _ _ (by omega)).trans hb2
          go_wp2_with (first | (with_reducible refine Agg.wpList_alloc_row rfl 38 rfl (hC z20) z20_zero ?_) | (with_reducible refine Agg.wpList_set_row rfl rfl 38 _ _ rfl w1.heap.size (hC z20) rfl rfl 38 _ hb3 (hC_info _ z20_length) rfl (hC_one _) ?_) | (with_reducible refine Agg.wpList_build_zero rfl 40 rfl (.agg (pC z20 [])) build_zeroPath ?_) | (with_reducible refine Agg.wpList_set_row rfl rfl 40 _ _ rfl w.heap.size (pC z20 []) rfl rfl 40 _ hb4 (pC_info _ _ z20_length) rfl (pC_one _ _) ?_))
          exact Agg.post_row_tmp rfl rfl rfl (setRow_heap _ _ _ _ _ _ hb4) pC_under rfl (pC_info _ _ z20_length) rfl ⟨by rw [HP.out.1, HP.out.2.1, HP.out.2.2]; rfl, Agg.below_setRow (Agg.below_setRow (hw.alloc (by omega) _) (by omega)) (Nat.le_refl _)⟩
        | some h =>
          have hl := hash_length hh
          have he : hashE (s.take 32) = 0 := by simp [hashE, hh]
          have hz : hashH (s.take 32) = h := by simp [hashH, hh]
          have hp : parseH s = h ∧ parseN s = s.drop 33 ∧ parseE s = 0 := by
            have : parse s = some (h, s.drop 33) := by rw [HR.out, hh, H45.out, hn]; simp [h34]
            simp [parseH, parseN, parseE, this]
          have HP := Lib.hid hp
          have HLn := Lib.hid hl
          rw [he, hz]
          clear hp he hz hl
          have hb2 : (w1.alloc (.cells (hC z20) 38)).heap[w.heap.size]? = _ := (heap_alloc_old _ _ hlt).trans hb1
          have hb3 := heap_alloc_new w1 (.cells (hC z20) 38)
          have hb4 : ((w1.alloc (.cells (hC z20) 38)).setRow w1.heap.size (hC h)).heap[w.heap.size]? = _ := (setRow_other _ _ _ _ (by omega)).trans hb2
          have hb5 := setRow_heap _ _ _ (hC h) _ _ hb3
          have hsz2 : Hid ((hC z20).size = (hC h).size) := Lib.hid (by rw [hC_size, hC_size, HLn.out]; rfl)
          have hsz3 : Hid ((pC z20 []).size = (pC h (s.drop 33)).size) := Lib.hid (by rw [pC_size, pC_size, HLn.out]; rfl)
          have hw4 : Below w.heap.size w ((w1.alloc (.cells (hC z20) 38)).setRow w1.heap.size (hC h)) := Agg.below_setRow (hw.alloc (by omega) _) (by omega)
          go_wp2_with (first | (with_reducible refine Agg.wpList_alloc_row rfl 38 rfl (hC z20) z20_zero ?_) | (with_reducible refine Agg.wpList_set_row rfl rfl 38 _ _ rfl w1.heap.size (hC h) rfl rfl 38 _ hb3 (hC_info _ HLn.out) hsz2.out (hC_one _) ?_))
          generalize (w1.alloc (.cells (hC z20) 38)).setRow w1.heap.size (hC h) = w4 at *
          refine wp_region_still_tail 3 (by kernel_rfl) (by kernel_rfl) ?_
          have hb5d : ({ w4 with drawn := w4.drawn + 1 } : World).heap[w1.heap.size]? = _ := hb5
          have hb4d : ({ w4 with drawn := w4.drawn + 1 } : World).heap[w.heap.size]? = _ := hb4
          have hwd : Below w.heap.size w { w4 with drawn := w4.drawn + 1 } := hw4.drew
          generalize ({ w4 with drawn := w4.drawn + 1 } : World) = w5 at *
          simp only [List.take_succ_cons, List.take_zero, List.drop_succ_cons, List.drop_zero]
          with_reducible refine Agg.wpStill_load rfl 38 _ rfl (.pointer (some ⟨w1.heap.size, 0, none⟩)) rfl (.agg (hC h)) (Agg.run_loadAt_sub (off := 0) hb5d (fun j v hj => by simpa using hj) Try.underlying38 rfl (hC_info _ HLn.out)) ?_
          have h33 : (33 : Int) ≤ s.length := by omega
          repeat still_step
          refine wpStill_nil ?_
          rw [ext_from]
          go_wp2_with (first | (with_reducible refine Agg.wpList_build rfl 40 _ rfl (.agg (pC h (s.drop 33))) #[(0, .agg (hC h)), (1, .string ⟨(s.drop 33).toArray⟩)] (by kernel_rfl) (build_path _ _ HLn.out _) ?_) | (with_reducible refine Agg.wpList_set_row rfl rfl 40 _ _ rfl w.heap.size (pC h (s.drop 33)) rfl rfl 40 _ hb4d (pC_info _ _ HLn.out) hsz3.out (pC_one _ _) ?_))
          exact Agg.post_row_tmp rfl rfl rfl (setRow_heap _ _ _ _ _ _ hb4d) pC_under rfl (pC_info _ _ HLn.out) rfl ⟨by rw [HP.out.1, HP.out.2.1, HP.out.2.2]; rfl, Agg.below_setRow hwd (Nat.le_refl _)⟩

  · have hp : parseH s = z20 ∧ parseN s = [] ∧ parseE s = 4 := by
      have : parse s = none := by rw [HR.out]; simp [h34]
      simp [parseH, parseN, parseE, this]
    have HP := Lib.hid hp
    clear hp
    have hd : decide ((s.length : Int) < 34) = true := by simp; omega
    go_enter Try.func28, Try.ntmps28
    go_wp2_with (first | (with_reducible refine Agg.wpList_alloc_row rfl 40 rfl (pC z20 []) pC_zero ?_) | (with_reducible refine Agg.wpList_build_zero rfl 40 rfl (.agg (pC z20 [])) build_zeroPath ?_) | (with_reducible refine Agg.wpList_set_row rfl rfl 40 _ _ rfl w.heap.size (pC z20 []) rfl rfl 40 _ hb (pC_info _ _ z20_length) rfl (pC_one _ _) ?_))
    exact Agg.post_row_tmp rfl rfl rfl (setRow_heap _ _ _ _ _ _ hb) pC_under rfl (pC_info _ _ z20_length) rfl ⟨by rw [HP.out.1, HP.out.2.1, HP.out.2.2]; rfl, Agg.below_setRow ((Below.refl _ _).alloc (Nat.le_refl _) _) (Nat.le_refl _)⟩
end Go.Proofs.Ytfgjepfmcmppaaa
