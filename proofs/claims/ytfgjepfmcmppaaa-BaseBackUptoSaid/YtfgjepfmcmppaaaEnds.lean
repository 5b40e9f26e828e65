/- spencelaw03.BaseEnds: true. -/
import Derived.Test.YtfgjepfmcmppaaaTells
import Derived.Test.YtfgjepfmcmppaaaAgg3
namespace Go.Proofs.Ytfgjepfmcmppaaa
open Go.RowKit Pl Go.Agg
theorem tells_bytes (h n : List UInt8) (b : ByteArray) (hl : h.length = 20) (hn : n.length ≤ 1048576) (hs : b.size ≤ 1048576) (m : Int) (w : World) (hm : w.cell? ⟨0, 0, none⟩ = some (.int .i64 m)) :
    Calls Try.prog 5 #[.agg (pC h n), .string b] w fun e w' => e = .returned (.bool true) ∧ Below w.heap.size w w' :=
  tells_any h n b.data.toList hl hs hn m w hm
theorem build_path_b (h : List UInt8) (b : ByteArray) (hl : h.length = 20) (w : World) : (Instr.build 40 #[(0, .agg (hC h)), (1, .string b)]).run Try.prog w = .ok (.agg (pC h b.data.toList)) w := build_path h b.data.toList hl w
theorem build_path_h (h : List UInt8) (hl : h.length = 20) (w : World) : (Instr.build 40 #[(0, .agg (hC h))]).run Try.prog w = .ok (.agg (pC h [])) w := by
  refine run_build w _ _ _ ?_
  rw [pathBuilt, fill_cons (off := 0) (size := 20) rfl (by simp [Value.cells, hC_size, hl]) (by rw [pC_size, z20_length]; omega), fill_nil]
  exact congrArg some (by simp only [Value.cells]; rw [pC_splice0 _ _ _ z20_length hl])
theorem build_path_n (b : ByteArray) (w : World) : (Instr.build 40 #[(1, .string b)]).run Try.prog w = .ok (.agg (pC z20 b.data.toList)) w := by
  refine run_build w _ _ _ ?_
  rw [pathBuilt, fill_cons (off := 20) (size := 1) rfl rfl (by rw [pC_size, z20_length]; omega), fill_nil]
  exact congrArg some (pC_splice1 z20 [] b.data.toList z20_length)
theorem z20_get (j : Nat) (hj : j < 20) : (hC z20)[j]? = some (.int .u8 0) := by
  rw [hC_get z20 j hj]
  show some (Value.int .u8 (((List.replicate 20 (0 : UInt8))[j]'(by simpa using hj)).toNat : Int)) = _
  rw [List.getElem_replicate]; rfl
set_option maxRecDepth 100000 in
set_option maxHeartbeats 1000000 in
theorem ends_any (m : Int) (w : World) (hm : w.cell? ⟨0, 0, none⟩ = some (.int .i64 m)) :
    Calls Try.prog 6 #[] w fun e w' => e = .returned (.bool true) ∧ Below w.heap.size w w' := by
  have HM0 : Hid (∀ w', Below w.heap.size w w' → w'.cell? ⟨0, 0, none⟩ = some (.int .i64 m)) := Lib.hid (fun w' hw' => (hw'.cell (block_lt_of_cell hm)).trans hm)
  clear hm
  go_enter Try.func6, Try.ntmps6
  go_wp2_with fail
  go_loopw [1] (fun i wr => ∃ k : Nat, k ≤ 160 ∧ i = .int .i64 k ∧ Below w.heap.size w wr) (fun i _ => 160 - (intOf i).toNat)
  case atStart => exact ⟨0, by omega, rfl, Below.refl _ _⟩
  case round =>
    obtain ⟨k, hk, rfl, hw⟩ := hrel
    by_cases hlt : k < 160
    · have hd : decide ((k : Int) < 160) = true := by simp; omega
      have hget : (hC z20)[k / 8]? = some (.int .u8 0) := z20_get _ (by omega)
      obtain ⟨h, hl, hset⟩ : ∃ h : List UInt8, h.length = 20 ∧ (hC z20).setIfInBounds (k / 8) (.int .u8 (2 ^ (k % 8) % 256)) = hC h := by
        refine ⟨z20.set (k / 8) (UInt8.ofNat (2 ^ (k % 8))), by simp [z20_length], ?_⟩
        rw [← hC_set]
        congr 2
      have HL := Lib.hid hl
      clear hl
      have hb := heap_alloc_new wr (.cells (hC h) 38)
      go_wp2_with (first | (with_reducible refine Agg.wpList_alloc_row rfl 38 rfl (hC z20) z20_zero ?_) | (with_reducible refine wpList_load_row rfl 38 _ rfl wr.heap.size rfl 38 _ (0, 0) _ hb Try.underlying38 rfl (hC_info _ HL.out) ?_))
      refine (refLetters_any h HL.out _).mono ?_
      rintro e w1 ⟨rfl, hx⟩
      have h0 := Agg.keep' hx hb
      have hw1 : Below w.heap.size w w1 := (hw.alloc hw.size _).trans (hx.mono (by have := hw.size; simp; omega))
      clear hx hb hset hget
      go_wp2_with fail
      have hl0 : ∀ x : Later w1, (Instr.loadAt 38 (.pointer (some ⟨wr.heap.size, 0, none⟩))).run Try.prog x.w = .ok (.agg (hC h)) x.w := fun x => Agg.run_loadAt_sub (off := 0) (x.heap h0) (fun j v hj => by simpa using hj) Try.underlying38 rfl (hC_info _ HL.out)
      have hmx : ∀ x : Later w1, x.w.cell? ⟨0, 0, none⟩ = some (.int .i64 m) := fun x => HM0.out _ (Agg.belowThen hw1 (Nat.le_refl _) x.h)
      have HMX := Lib.hid hmx
      clear hmx
      have hll : (letters h).length ≤ 32 := by rw [letters_length]; omega
      have hsl : ∀ w, (Instr.slice 9 (.string ⟨(letters h).toArray⟩) (some (.int .i64 1)) none none).run Try.prog w = .ok (.string ⟨((letters h).drop 1).toArray⟩) w  := fun w => Agg.slice_from w Try.underlying9 _ .i64 1 (by rw [letters_length]; omega)
      refine Agg.wp_region_later_lit (by kernel_rfl) (by kernel_rfl) ?_
      repeat (first
        | ((first
          | (with_reducible refine Agg.wpQuiet_load rfl 38 _ rfl (.pointer (some ⟨wr.heap.size, 0, none⟩)) rfl (.agg (hC h)) (Agg.later_all hl0) ?_)
          | (with_reducible refine Agg.wpQuiet_build2 40 0 _ 1 _ rfl rfl (.agg (hC h)) (.string _) rfl rfl _ (build_path_b h _ HL.out) ?_)
          | (with_reducible refine Agg.wpQuiet_build1 40 0 _ rfl rfl (.agg (hC h)) rfl _ (build_path_h h HL.out) ?_)); simp only [Act.put, List.setIfInBounds_toArray, List.set_cons_succ, List.set_cons_zero])
        | go_big_quiet_step ((go_at_call 5; exact Agg.Calls.later (tells_bytes h _ _ HL.out (by simp) (by simp [ByteArray.size_append, Agg.bytes_size]; omega) m _ (HMX.out _)))))
      refine wpQuiet_nil ?_
      intro _ hw'
      obtain ⟨x, rfl⟩ := hw'
      go_wp2_with fail
      go_roundw
      case rel => exact ⟨k + 1, by omega, by go_num, Agg.belowThen hw1 (Nat.le_refl _) x.h⟩
      case measure => simp [intOf]; omega
    · obtain rfl : k = 160 := by omega
      go_wp2_with (first | (with_reducible refine Agg.wpList_build_zero rfl 38 rfl (.agg (hC z20)) build_zero ?_))
      refine (refLetters_any z20 z20_length _).mono ?_
      rintro e w1 ⟨rfl, hx⟩
      replace hw := Agg.belowThen hw (Nat.le_refl _) hx
      clear hx
      generalize hZ : letters z20 = Z
      have hll : Z.length = 32 := by rw [← hZ, letters_length]
      have hs31 : ∀ w, (Instr.slice 9 (.string ⟨Z.toArray⟩) none (some (.int .i64 31)) none).run Try.prog w = .ok (.string ⟨(Z.take 31).toArray⟩) w := fun w => Agg.slice_to w Try.underlying9 _ .i64 31 (by omega)
      have HLL := Lib.hid hll
      have hle : Z.length ≤ 32 := by omega
      clear hll hZ
      go_wp2_with fail
      go_loopw [5] (fun i wr => ∃ k : Nat, k ≤ 256 ∧ i = .int .i64 k ∧ Below w.heap.size w wr) (fun i _ => 256 - (intOf i).toNat)
      case atStart => exact ⟨0, by omega, rfl, hw⟩
      case round =>
        obtain ⟨k, hk, rfl, hw⟩ := hrel
        by_cases hlt : k < 256
        · have hd : decide ((k : Int) < 256) = true := by simp; omega
          have hcell : (wr.alloc (.cells #[.int .u8 (k : Int)] 5)).cell? ⟨wr.heap.size, 0, none⟩ = some (.int .u8 (k : Int)) := by rw [cell_of_row _ _ _ _ _ _ (heap_alloc_new wr (.cells #[.int .u8 (k : Int)] 5))]; rfl
          have hcv : (convert 23 9 (.slice (some ⟨wr.heap.size, 0, none⟩) 1 1)).run Try.prog (wr.alloc (.cells #[.int .u8 (k : Int)] 5)) = .ok (.string ⟨[UInt8.ofNat k].toArray⟩) (wr.alloc (.cells #[.int .u8 (k : Int)] 5)) := by
            rw [run_convert_bytes_arg (wr.alloc (.cells #[.int .u8 (k : Int)] 5)) 23 5 Try.underlying23 Try.underlying5 wr.heap.size 0 1 1 [(k : Int)] rfl (fun i hi => by cases Nat.lt_one_iff.1 hi; exact hcell) 9 Try.underlying9]
            rfl
          go_wp2_with (first | (with_reducible refine Agg.wpList_build1 40 1 _ rfl rfl (.string _) rfl _ (build_path_n _) ?_) | (with_reducible refine Agg.wpList_build0 40 rfl rfl _ build_zeroPath ?_))
          replace hw := hw.alloc hw.size (.cells #[.int .u8 (k : Int)] 5)
          clear hcell hcv
          generalize wr.alloc (.cells #[.int .u8 (k : Int)] 5) = w2 at *
          refine (tells_bytes z20 _ _ z20_length (by simp) (by first | (simp [ByteArray.size]; done) | (simp [ByteArray.size, HLL.out]; done) | (simp [ByteArray.size_append, ByteArray.size]; omega)) m _ (HM0.out _ hw)).mono ?_
          rintro e w3 ⟨rfl, hx⟩
          replace hw := Agg.belowThen hw (Nat.le_refl _) hx
          clear hx
          go_wp2_with (first | (with_reducible refine Agg.wpList_build1 40 1 _ rfl rfl (.string _) rfl _ (build_path_n _) ?_) | (with_reducible refine Agg.wpList_build0 40 rfl rfl _ build_zeroPath ?_))
          refine (tells_bytes z20 _ _ z20_length (by simp) (by first | (simp [ByteArray.size]; done) | (simp [ByteArray.size, HLL.out]; done) | (simp [ByteArray.size_append, ByteArray.size]; omega)) m _ (HM0.out _ hw)).mono ?_
          rintro e w4 ⟨rfl, hx⟩
          replace hw := Agg.belowThen hw (Nat.le_refl _) hx
          clear hx
          go_wp2_with (first | (with_reducible refine Agg.wpList_build1 40 1 _ rfl rfl (.string _) rfl _ (build_path_n _) ?_) | (with_reducible refine Agg.wpList_build0 40 rfl rfl _ build_zeroPath ?_))
          refine (tells_bytes z20 _ _ z20_length (by simp) (by first | (simp [ByteArray.size]; done) | (simp [ByteArray.size, HLL.out]; done) | (simp [ByteArray.size_append, ByteArray.size]; omega)) m _ (HM0.out _ hw)).mono ?_
          rintro e w5 ⟨rfl, hx⟩
          replace hw := Agg.belowThen hw (Nat.le_refl _) hx
          clear hx
          go_wp2_with (first | (with_reducible refine Agg.wpList_build1 40 1 _ rfl rfl (.string _) rfl _ (build_path_n _) ?_) | (with_reducible refine Agg.wpList_build0 40 rfl rfl _ build_zeroPath ?_))
          refine (tells_bytes z20 _ _ z20_length (by simp) (by first | (simp [ByteArray.size]; done) | (simp [ByteArray.size, HLL.out]; done) | (simp [ByteArray.size_append, ByteArray.size]; omega)) m _ (HM0.out _ hw)).mono ?_
          rintro e w6 ⟨rfl, hx⟩
          replace hw := Agg.belowThen hw (Nat.le_refl _) hx
          clear hx
          go_wp2_with fail
          go_roundw
          case rel => exact ⟨k + 1, by omega, by go_num, hw⟩
          case measure => simp [intOf]; omega
        · obtain rfl : k = 256 := by omega
          go_wp2_with fail
          go_loopw [8] (fun i wr => ∃ k : Nat, k ≤ 26 ∧ i = .int .i64 k ∧ Below w.heap.size w wr) (fun i _ => 26 - (intOf i).toNat)
          case atStart => exact ⟨0, by omega, rfl, hw⟩
          case round =>
            obtain ⟨k, hk, rfl, hw⟩ := hrel
            by_cases hlt : k < 26
            · have hd : decide ((k : Int) < 26) = true := by simp; omega
              have hsN : ∀ w, (Instr.slice 9 (.string ⟨[97, 98, 99, 100, 101, 102, 103, 104, 105, 106, 107, 108, 109, 110, 111, 112, 113, 114, 115, 116, 117, 118, 119, 120, 121].toArray⟩) none (some (.int .i64 (k : Int))) none).run Try.prog w = .ok (.string ⟨(List.take k [97, 98, 99, 100, 101, 102, 103, 104, 105, 106, 107, 108, 109, 110, 111, 112, 113, 114, 115, 116, 117, 118, 119, 120, 121]).toArray⟩) w := fun w => Agg.slice_to w Try.underlying9 _ .i64 k (by simp; omega)
              have hsZ : ∀ w, (Instr.slice 9 (.string ⟨Z.toArray⟩) none (some (.int .i64 (k : Int))) none).run Try.prog w = .ok (.string ⟨(Z.take k).toArray⟩) w := fun w => Agg.slice_to w Try.underlying9 _ .i64 k (by rw [HLL.out]; omega)
              go_wp2_with fail
              have hmx : ∀ x : Later wr, x.w.cell? ⟨0, 0, none⟩ = some (.int .i64 m) := fun x => HM0.out _ (Agg.belowThen hw (Nat.le_refl _) x.h)
              have HMX := Lib.hid hmx
              clear hmx
              have hzk : (Z.take k).length ≤ 26 := by simp; omega
              have hnk : (List.take k [(97 : UInt8), 98, 99, 100, 101, 102, 103, 104, 105, 106, 107, 108, 109, 110, 111, 112, 113, 114, 115, 116, 117, 118, 119, 120, 121]).length ≤ 26 := by simp; omega
              generalize Z.take k = Zk at *
              generalize List.take k [(97 : UInt8), 98, 99, 100, 101, 102, 103, 104, 105, 106, 107, 108, 109, 110, 111, 112, 113, 114, 115, 116, 117, 118, 119, 120, 121] = Nk at *
              refine Agg.wp_region_later_lit (by kernel_rfl) (by kernel_rfl) ?_
              repeat (first
                | ((first
                  | (with_reducible refine Agg.wpQuiet_build1 40 1 _ rfl rfl (.string _) rfl _ (build_path_n _) ?_)
                  | (with_reducible refine Agg.wpQuiet_build0 40 rfl rfl _ build_zeroPath ?_)); simp only [Act.put, List.setIfInBounds_toArray, List.set_cons_succ, List.set_cons_zero])
                | go_big_quiet_step ((go_at_call 5; exact Agg.Calls.later (tells_bytes z20 _ _ z20_length (by first | (simp; done) | omega | (simp; omega)) (by first | (simp [ByteArray.size]; done) | (simp [ByteArray.size]; omega) | (simp [ByteArray.size_append, ByteArray.size]; omega)) m _ (HMX.out _)))))
              refine wpQuiet_nil ?_
              intro _ hw'
              obtain ⟨x, rfl⟩ := hw'
              go_wp2_with fail
              go_roundw
              case rel => exact ⟨k + 1, by omega, by go_num, Agg.belowThen hw (Nat.le_refl _) x.h⟩
              case measure => simp [intOf]; omega
            · obtain rfl : k = 26 := by omega
              go_wp2_with fail
              refine (awake_any _).mono ?_
              rintro e w2 ⟨rfl, hx⟩
              go_wp2_with fail
              go_ret
              exact ⟨rfl, Agg.belowThen hw (Nat.le_refl _) hx⟩
end Go.Proofs.Ytfgjepfmcmppaaa
