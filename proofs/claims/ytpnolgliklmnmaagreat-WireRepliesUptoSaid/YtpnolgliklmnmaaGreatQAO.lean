/- Replies as bytes: the plain law. (Several texts in one.) -/
import Derived.Test.YtpnolgliklmnmaaGreatQAN
import Derived.Test.YtpnolgliklmnmaaGreatQAJ
import Derived.Test.YtpnolgliklmnmaaGreatQAA
import Derived.Test.YtpnolgliklmnmaaGreatQAK
import Derived.Test.YtpnolgliklmnmaaGreatQAG
import Derived.Test.YtpnolgliklmnmaaGreatQAC
import Derived.Test.YtpnolgliklmnmaaGreatQAB
/-! spenceref03.Parse: the same answer as base.Parse. -/
namespace Go.Proofs.YtpnolgliklmnmaaGreat
open Go.RowKit Pl Go.Mp Go.Agg
theorem pathBuilt : ∀ parts, Tryz.prog.built 27 parts = Instr.fill (#[(0, 20), (20, 1)][·]?) (pC z20 []) parts := fun _ => by kernel_rfl
theorem pC_splice0 (h h' n : List UInt8) (hl : h.length = 20) (hl' : h'.length = 20) : Go.Agg.splice (pC h n) 0 (hC h') = pC h' n := pC_setHash h h' n hl hl'
theorem pC_splice1 (h n n' : List UInt8) (hl : h.length = 20) : Go.Agg.splice (pC h n) 20 #[.string ⟨n'.toArray⟩] = pC h n' := by
  apply Array.ext'
  simp [Go.Agg.splice, pC, hC, Lib.byteCells, hl]
theorem build_path (h n : List UInt8) (hl : h.length = 20) (w : World) : (Instr.build 27 #[(0, .agg (hC h)), (1, .string ⟨n.toArray⟩)]).run Tryz.prog w = .ok (.agg (pC h n)) w := by
  refine run_build w _ _ _ ?_
  rw [pathBuilt]
  rw [fill_cons (off := 0) (size := 20) rfl (by simp [Value.cells, hC_size, hl]) (by rw [pC_size, z20_length]; omega)]
  rw [fill_cons (off := 20) (size := 1) rfl rfl (by rw [Go.Agg.splice_size _ _ _ (by simp [Value.cells, hC_size, pC_size, z20_length, hl]), pC_size, z20_length]; omega)]
  rw [fill_nil]
  exact congrArg some (by simp only [Value.cells]; rw [pC_splice0 _ _ _ z20_length hl, pC_splice1 _ _ _ hl])
theorem build_zeroPath (w : World) : (Instr.build 27 #[]).run Tryz.prog w = .ok (.agg (pC z20 [])) w := by kernel_rfl
theorem ext_from (s : List UInt8) (i : Nat) : ByteArray.extract ⟨s.toArray⟩ i s.length = ⟨(s.drop i).toArray⟩ := by rw [Agg.bytes_extract, List.take_length]
theorem ext_to (s : List UInt8) (i : Nat) : ByteArray.extract ⟨s.toArray⟩ 0 i = ⟨(s.take i).toArray⟩ := by rw [Agg.bytes_extract, List.drop_zero]
set_option maxRecDepth 100000 in
set_option maxHeartbeats 1000000 in
theorem refParse_any (s : List UInt8) (hs : s.length ≤ 9223372036854775807) (w : World) :
    Calls Tryz.prog 92 #[.string ⟨s.toArray⟩] w fun e w' => e = .returned (.tuple #[.agg (pC (parseH s) (parseN s)), .int .i64 (parseE s)]) ∧ Below w.heap.size w w' := by
  have hsz := Agg.bytes_size s
  have hlen : ∀ w, (Builtin.len_ #[9] 3 #[.string ⟨s.toArray⟩]).run Tryz.prog w = .ok (.int .i64 (s.length : Int)) w := fun w => by rw [run_len_string w 9 3 _ Tryz.underlying9, hsz]; rfl
  have HS := Lib.hid hsz
  clear hsz
  have hb := heap_alloc_new w (.cells (pC z20 []) 27)
  have hpr := parse_ref s
  have HR := Lib.hid hpr
  clear hpr
  by_cases h34 : 34 ≤ s.length
  · have hd : decide ((s.length : Int) < 34) = false := by simp; omega
    have hix : ∀ w, (Instr.index 9 (.string ⟨s.toArray⟩) (.int .i64 32)).run Tryz.prog w = .ok (.int .u8 ((s[32]?.getD 0).toNat : Int)) w := fun w => Agg.run_index_str (i := 32) w Tryz.underlying9 (by simp [List.getElem?_eq_getElem (show 32 < s.length by omega)])
    cases h45 : (((s[32]?.getD 0).toNat : Int) != 45) with
    | true =>
      have hp : parseH s = z20 ∧ parseN s = [] ∧ parseE s = 4 := by
        have h45' : (s[32]?.getD 0 == 45) = false := by
          cases h : (s[32]?.getD 0 == 45) with
          | false => rfl
          | true => rw [beq_iff_eq.1 h] at h45; simp at h45
        have : parse s = none := by rw [HR.out, h45']; simp
        simp [parseH, parseN, parseE, this]
      have HP := Lib.hid hp
      clear hp
      go_enter Tryz.func92, Tryz.ntmps92
      go_wp2_with (first | (with_reducible refine Agg.wpList_alloc_row rfl 27 rfl (pC z20 []) pC_zero ?_) | (with_reducible refine Agg.wpList_build_zero rfl 27 rfl (.agg (pC z20 [])) build_zeroPath ?_) | (with_reducible refine Agg.wpList_set_row rfl rfl 27 _ _ rfl w.heap.size (pC z20 []) rfl rfl 27 _ hb (pC_info _ _ z20_length) rfl (pC_one _ _) ?_))
      exact Agg.post_row_tmp rfl rfl rfl (setRow_heap _ _ _ _ _ _ hb) pC_under rfl (pC_info _ _ z20_length) rfl ⟨by rw [HP.out.1, HP.out.2.1, HP.out.2.2]; rfl, Agg.below_setRow ((Below.refl _ _).alloc (Nat.le_refl _) _) (Nat.le_refl _)⟩
    | false =>
      have h45' : (s[32]?.getD 0 == 45) = true := by
        have : ((s[32]?.getD 0).toNat : Int) = 45 := by simpa using h45
        rw [beq_iff_eq, ← UInt8.toNat_inj]; simp; omega
      have H45 := Lib.hid h45'
      clear h45'
      have hdl : (s.drop 33).length ≤ 9223372036854775807 := by simp; omega
      cases hn : isName (s.drop 33) with
      | false =>
        have hp : parseH s = z20 ∧ parseN s = [] ∧ parseE s = 4 := by
          have : parse s = none := by rw [HR.out, hn]; simp
          simp [parseH, parseN, parseE, this]
        have HP := Lib.hid hp
        clear hp
        go_enter Tryz.func92, Tryz.ntmps92
        go_wp2_with (first | (with_reducible refine Agg.wpList_alloc_row rfl 27 rfl (pC z20 []) pC_zero ?_))
        rw [ext_from]
        refine (refName_any _ hdl _).mono ?_
        rintro e w1 ⟨rfl, rfl⟩
        rw [hn]
        go_wp2_with (first | (with_reducible refine Agg.wpList_build_zero rfl 27 rfl (.agg (pC z20 [])) build_zeroPath ?_) | (with_reducible refine Agg.wpList_set_row rfl rfl 27 _ _ rfl w.heap.size (pC z20 []) rfl rfl 27 _ hb (pC_info _ _ z20_length) rfl (pC_one _ _) ?_))
        exact Agg.post_row_tmp rfl rfl rfl (setRow_heap _ _ _ _ _ _ hb) pC_under rfl (pC_info _ _ z20_length) rfl ⟨by rw [HP.out.1, HP.out.2.1, HP.out.2.2]; rfl, Agg.below_setRow ((Below.refl _ _).alloc (Nat.le_refl _) _) (Nat.le_refl _)⟩
      | true =>
        go_enter Tryz.func92, Tryz.ntmps92
        go_wp2_with (first | (with_reducible refine Agg.wpList_alloc_row rfl 27 rfl (pC z20 []) pC_zero ?_))
        rw [ext_from]
        refine (refName_any _ hdl _).mono ?_
        rintro e w1 ⟨rfl, rfl⟩
        rw [hn]
        go_wp2_with fail
        rw [ext_to]
        refine (refHash_any _ _).mono ?_
        rintro e w1 ⟨rfl, hw1⟩
        have hb1 := Agg.keep' hw1 hb
        have hw : Below w.heap.size w w1 := ((Below.refl _ _).alloc (Nat.le_refl _) _).trans (hw1.mono (by simp))
        have hlt : w.heap.size < w1.heap.size := Agg.heap_lt hb1
        clear hw1 hb
        cases hh : Pl.hash (s.take 32) with
        | none =>
          have he : hashE (s.take 32) = 4 := by simp [hashE, hh]
          have hz : hashH (s.take 32) = z20 := by simp [hashH, hh]
          have hp : parseH s = z20 ∧ parseN s = [] ∧ parseE s = 4 := by
            have : parse s = none := by rw [HR.out, hh]; simp
            simp [parseH, parseN, parseE, this]
          have HP := Lib.hid hp
          rw [he, hz]
          clear hp he hz
          have hb2 : (w1.alloc (.cells (hC z20) 25)).heap[w.heap.size]? = _ := (heap_alloc_old _ _ hlt).trans hb1
          have hb3 := heap_alloc_new w1 (.cells (hC z20) 25)
          have hb4 : ((w1.alloc (.cells (hC z20) 25)).setRow w1.heap.size (hC z20)).heap[w.heap.size]? = _ := (setRow_other _ _ _ _ (by omega)).trans hb2
          go_wp2_with (first | (with_reducible refine Agg.wpList_alloc_row rfl 25 rfl (hC z20) z20_zero ?_) | (with_reducible refine Agg.wpList_set_row rfl rfl 25 _ _ rfl w1.heap.size (hC z20) rfl rfl 25 _ hb3 (hC_info _ z20_length) rfl (hC_one _) ?_) | (with_reducible refine Agg.wpList_build_zero rfl 27 rfl (.agg (pC z20 [])) build_zeroPath ?_) | (with_reducible refine Agg.wpList_set_row rfl rfl 27 _ _ rfl w.heap.size (pC z20 []) rfl rfl 27 _ hb4 (pC_info _ _ z20_length) rfl (pC_one _ _) ?_))
          exact Agg.post_row_tmp rfl rfl rfl (setRow_heap _ _ _ _ _ _ hb4) pC_under rfl (pC_info _ _ z20_length) rfl ⟨by rw [HP.out.1, HP.out.2.1, HP.out.2.2]; rfl, Agg.below_setRow (Agg.below_setRow (hw.alloc (by omega) _) (by omega)) (Nat.le_refl _)⟩
        | some h =>
          have hl := hash_length hh
          have he : hashE (s.take 32) = 0 := by simp [hashE, hh]
          have hz : hashH (s.take 32) = h := by simp [hashH, hh]
          have hp : parseH s = h ∧ parseN s = s.drop 33 ∧ parseE s = 0 := by
            have : parse s = some (h, s.drop 33) := by rw [HR.out, hh, H45.out, hn]; simp [h34]
            simp [parseH, parseN, parseE, this]
          have HP := Lib.hid hp
          have HLn := Lib.hid hl
          rw [he, hz]
          clear hp he hz hl
          have hb2 : (w1.alloc (.cells (hC z20) 25)).heap[w.heap.size]? = _ := (heap_alloc_old _ _ hlt).trans hb1
          have hb3 := heap_alloc_new w1 (.cells (hC z20) 25)
          have hb4 : ((w1.alloc (.cells (hC z20) 25)).setRow w1.heap.size (hC h)).heap[w.heap.size]? = _ := (setRow_other _ _ _ _ (by omega)).trans hb2
          have hb5 := setRow_heap _ _ _ (hC h) _ _ hb3
          have hsz2 : Hid ((hC z20).size = (hC h).size) := Lib.hid (by rw [hC_size, hC_size, HLn.out]; rfl)
          have hsz3 : Hid ((pC z20 []).size = (pC h (s.drop 33)).size) := Lib.hid (by rw [pC_size, pC_size, HLn.out]; rfl)
          have hw4 : Below w.heap.size w ((w1.alloc (.cells (hC z20) 25)).setRow w1.heap.size (hC h)) := Agg.below_setRow (hw.alloc (by omega) _) (by omega)
          go_wp2_with (first | (with_reducible refine Agg.wpList_alloc_row rfl 25 rfl (hC z20) z20_zero ?_) | (with_reducible refine Agg.wpList_set_row rfl rfl 25 _ _ rfl w1.heap.size (hC h) rfl rfl 25 _ hb3 (hC_info _ HLn.out) hsz2.out (hC_one _) ?_))
          generalize (w1.alloc (.cells (hC z20) 25)).setRow w1.heap.size (hC h) = w4 at *
          refine wp_region_still_tail 3 (by kernel_rfl) (by kernel_rfl) ?_
          have hb5d : ({ w4 with drawn := w4.drawn + 1 } : World).heap[w1.heap.size]? = _ := hb5
          have hb4d : ({ w4 with drawn := w4.drawn + 1 } : World).heap[w.heap.size]? = _ := hb4
          have hwd : Below w.heap.size w { w4 with drawn := w4.drawn + 1 } := hw4.drew
          generalize ({ w4 with drawn := w4.drawn + 1 } : World) = w5 at *
          simp only [List.take_succ_cons, List.take_zero, List.drop_succ_cons, List.drop_zero]
          with_reducible refine Agg.wpStill_load rfl 25 _ rfl (.pointer (some ⟨w1.heap.size, 0, none⟩)) rfl (.agg (hC h)) (Agg.run_loadAt_sub (off := 0) hb5d (fun j v hj => by simpa using hj) Tryz.underlying25 rfl (hC_info _ HLn.out)) ?_
          have h33 : (33 : Int) ≤ s.length := by omega
          repeat still_step
          refine wpStill_nil ?_
          rw [ext_from]
          go_wp2_with (first | (with_reducible refine Agg.wpList_build rfl 27 _ rfl (.agg (pC h (s.drop 33))) #[(0, .agg (hC h)), (1, .string ⟨(s.drop 33).toArray⟩)] (by kernel_rfl) (build_path _ _ HLn.out _) ?_) | (with_reducible refine Agg.wpList_set_row rfl rfl 27 _ _ rfl w.heap.size (pC h (s.drop 33)) rfl rfl 27 _ hb4d (pC_info _ _ HLn.out) hsz3.out (pC_one _ _) ?_))
          exact Agg.post_row_tmp rfl rfl rfl (setRow_heap _ _ _ _ _ _ hb4d) pC_under rfl (pC_info _ _ HLn.out) rfl ⟨by rw [HP.out.1, HP.out.2.1, HP.out.2.2]; rfl, Agg.below_setRow hwd (Nat.le_refl _)⟩

  · have hp : parseH s = z20 ∧ parseN s = [] ∧ parseE s = 4 := by
      have : parse s = none := by rw [HR.out]; simp [h34]
      simp [parseH, parseN, parseE, this]
    have HP := Lib.hid hp
    clear hp
    have hd : decide ((s.length : Int) < 34) = true := by simp; omega
    go_enter Tryz.func92, Tryz.ntmps92
    go_wp2_with (first | (with_reducible refine Agg.wpList_alloc_row rfl 27 rfl (pC z20 []) pC_zero ?_) | (with_reducible refine Agg.wpList_build_zero rfl 27 rfl (.agg (pC z20 [])) build_zeroPath ?_) | (with_reducible refine Agg.wpList_set_row rfl rfl 27 _ _ rfl w.heap.size (pC z20 []) rfl rfl 27 _ hb (pC_info _ _ z20_length) rfl (pC_one _ _) ?_))
    exact Agg.post_row_tmp rfl rfl rfl (setRow_heap _ _ _ _ _ _ hb) pC_under rfl (pC_info _ _ z20_length) rfl ⟨by rw [HP.out.1, HP.out.2.1, HP.out.2.2]; rfl, Agg.below_setRow ((Below.refl _ _).alloc (Nat.le_refl _) _) (Nat.le_refl _)⟩
end Go.Proofs.YtpnolgliklmnmaaGreat
/-! wire.Put of any request. -/
namespace Go.Proofs.YtpnolgliklmnmaaGreat
open Go.RowKit Pl Go.Agg
theorem newBytes_own {w w' : World} {v : Value} {s : List UInt8} (h : NewBytes w w' v s) : ∀ k, v.ownBlock = some k → w.heap.size ≤ k := by
  obtain ⟨cap, fr, rfl, _⟩ := h
  intro k hk
  simp only [Value.ownBlock, Option.some.injEq] at hk
  omega
theorem bytes_sv {w : World} {v : Value} {l : List UInt8} (h : BytesAt w v l) : ∃ s : SV, v = s.1 := by
  obtain ⟨p, c, hf⟩ := h.form
  exact ⟨⟨v, p, _, c, hf⟩, rfl⟩
theorem newBytes_sv {w w' : World} {v : Value} {s : List UInt8} (h : NewBytes w w' v s) : ∃ s : SV, v = s.1 := bytes_sv h.slice
theorem slice_at26 (g : Nat) (w : World) : (Instr.sliceAt 25 (.pointer (some ⟨g, 26, none⟩)) none none none).run Tryz.prog w = .ok (.slice (some ⟨g, 26, none⟩) 20 20) w := by kernel_rfl
theorem rq_class_slice {w : World} {g : Nat} {k u wh : Int} {nm : List UInt8} {vb : Value} {ph pn ch : List UInt8} (h : Blk w g 29 (rqG k u wh nm vb ph pn ch)) (hl : ph.length = 20) (hc : ch.length = 20) : SliceOf EB w (.slice (some ⟨g, 26, none⟩) 20 20) ch := by
  refine .inr ⟨_, 20, by rw [hc], h.lt, fun j v hj => ?_⟩
  rw [add_plain, h.cell]
  refine rqG_class hl j v ?_
  rw [flat_bytes] at hj
  simpa [hC] using hj
end Go.Proofs.YtpnolgliklmnmaaGreat
/-! spenceref28: text, path. -/
namespace Go.Proofs.YtpnolgliklmnmaaGreat
open Go.RowKit Pl Go.Agg
set_option maxRecDepth 100000 in
set_option maxHeartbeats 1000000 in
theorem refText_any (h n : List UInt8) (hl : h.length = 20) (hn : n.length ≤ 16777216) (w : World) : Calls Tryz.prog 48 #[.agg (pC h n)] w fun e w' => ∃ v, e = .returned v ∧ BytesAt w' v (pathS h n) ∧ (∀ k, v.ownBlock = some k → w.heap.size ≤ k) ∧ Below w.heap.size w w' := by
  have HQ := Lib.hid (fun W => eql_path h n z20 [] hl rfl W)
  obtain ⟨z, hz⟩ : ∃ z, (h == z20 && n == []) = z := ⟨_, rfl⟩
  rw [hz] at HQ
  have HZ := Lib.hid hz
  clear hz
  cases z with
  | true =>
    have HR := Lib.hid (show pathS h n = [] from by
      have h1 := HZ.out
      simp only [Bool.and_eq_true, beq_iff_eq] at h1
      rw [h1.1, h1.2]
      exact pathS_none isName_nil)
    go_enter Tryz.func48, Tryz.ntmps48
    go_wp2_with (first | (with_reducible refine Agg.wpList_box rfl 27 _ rfl (pC h n) rfl ?_; intro g w0 hb hx1 hg; have HP := Lib.hid (PL.of_blk hb hl); have HX1 := Lib.hid hx1; clear hb hx1 hg) | (with_reducible refine Agg.wpList_loadL HP.out.all rfl _ rfl rfl ?_) | (with_reducible refine Agg.wpList_build0 27 rfl rfl (.agg (pC z20 [])) build_p0 ?_) | (with_reducible refine Agg.wpList_eqlw 27 27 _ _ rfl rfl (pC h n) (pC z20 []) rfl rfl true (by kernel_rfl) HQ.out ?_))
    go_ret
    exact ⟨_, rfl, by rw [HR.out]; exact SliceOf.nil _ _ _, fun k hk => by simp [Value.ownBlock] at hk, HX1.out⟩
  | false =>
    go_enter Tryz.func48, Tryz.ntmps48
    go_wp2_with (first | (with_reducible refine Agg.wpList_box rfl 27 _ rfl (pC h n) rfl ?_; intro g w0 hb hx1 hg; have HP := Lib.hid (PL.of_blk hb hl); have HX1 := Lib.hid hx1; clear hb hx1 hg) | (with_reducible refine Agg.wpList_loadL HP.out.all rfl _ rfl rfl ?_) | (with_reducible refine Agg.wpList_build0 27 rfl rfl (.agg (pC z20 [])) build_p0 ?_) | (with_reducible refine Agg.wpList_eqlw 27 27 _ _ rfl rfl (pC h n) (pC z20 []) rfl rfl false (by kernel_rfl) HQ.out ?_))
    refine (refPath_any h n hl (by omega) _).mono ?_
    rintro e w1 ⟨rfl, hx1⟩
    have hx1 := Agg.belowThen HX1.out (Nat.le_refl _) hx1
    go_wp2_with (first | (with_reducible refine wpList_toBytes (pathS h n) _ rfl (by kernel_rfl) rfl ?_; intro v2 w2 hn2 hx2; have HN2 := Lib.hid hn2; have HX2 := Lib.hid hx2; clear hn2 hx2))
    go_ret
    exact ⟨v2, rfl, HN2.out.slice, fun k hk => Nat.le_trans hx1.size (newBytes_own HN2.out k hk), Agg.belowThen hx1 (Nat.le_refl _) HX2.out⟩
theorem CrS.keep {base gc : Nat} {w w' : World} {s : Option (List UInt8)} {g : Nat} {t : TypeId} {cs : Array Value} (h : CrS base gc w s) (ho : Only (· = g) w w') (hb : Blk w g t cs) (h1 : t ≠ 97) (h2 : t ≠ 5) : CrS base gc w' s := by
  obtain ⟨v, r, e, hv, h3, h4⟩ := h
  refine ⟨v, r, e, ⟨hv.blk.only ho (fun e => h1 ?_), restKeepT hv.rest fun k cur fr hk => (ho.block k (Agg.heap_lt hk) fun e => h2 ?_).trans hk⟩, h3, h4⟩
  · subst e; exact hb.type hv.blk
  · subst e
    unfold Blk at hb
    rw [hb] at hk
    injection hk with hk
    injection hk with _ hk
set_option maxRecDepth 100000 in
set_option maxHeartbeats 2000000 in
theorem refGetPath_any (base g : Nat) (s : Option (List UInt8)) (w : World) (hl : stLen s ≤ 16777216) (h : CrS base g w s) :
    Calls Tryz.prog 61 #[.pointer (some ⟨g, 0, none⟩)] w fun e w' => e = .returned (.agg (pC (parseH (sText 57 s).1) (parseN (sText 57 s).1))) ∧ CrS base g w' (sText 57 s).2 ∧ Only (fun k => k = g) w w' := by
  have hle := sText_le 57 s
  obtain ⟨l, s', hls⟩ : ∃ l s', sText 57 s = (l, s') := ⟨_, _, rfl⟩
  simp only [hls] at hle ⊢
  have HLS := Lib.hid hls
  have HC := Lib.hid h
  have HPL := Lib.hid (parseH_length l)
  clear hls h
  go_enter Tryz.func61, Tryz.ntmps61
  go_wp2_with (first | (with_reducible refine Agg.wpList_zero rfl 27 rfl (pC z20 []) pC_zero ?_; intro gr w1 hb hx hg; have HB := Lib.hid hb; have HX := Lib.hid hx; have HC1 := Lib.hid (HC.out.below hx); clear hb hx))
  refine (rctext_any base g 57 s _ hl HC1.out).mono ?_
  rintro x w2 ⟨u, rfl, hu, hc, ho⟩
  rw [HLS.out] at hu hc
  have hgc : gr ≠ g := by
    rintro rfl
    obtain ⟨v, r, e, hv, _⟩ := HC1.out
    exact absurd (HB.out.type hv.blk) (by decide)
  have HB2 := Lib.hid (HB.out.only ho hgc)
  have HC2 := Lib.hid hc
  have HU := Lib.hid hu.slice
  have HO2 := Lib.hid ((Only.of_below (S := fun k => k = g) HX.out).trans ho fun _ _ h => h)
  clear hu hc ho
  go_wp2_with (first | (with_reducible refine wpList_toStr HU.out _ rfl (by kernel_rfl) rfl ?_))
  refine (refParse_any l (by omega) _).mono ?_
  rintro e w3 ⟨rfl, hx3⟩
  have HB3 := Lib.hid (HB2.out.below hx3)
  have HC3 := Lib.hid (HC2.out.below hx3)
  have HO3 := Lib.hid (HO2.out.trans (Only.of_below (S := fun k => k = g) hx3) fun _ _ h => h)
  clear hx3
  go_wp2_with (first | (refine Agg.wpList_new rfl rfl rfl 27 3 10 rfl rfl rfl (by decide) (pC z20 []) (pC (parseH l) (parseN l)) pC_zero (by rw [pC_size, pC_size, HPL.out]; rfl) (pC_info _ _ HPL.out) (pC_one _ _) rfl (by first | (simp; done) | simp [Act.put]) ?_; intro g4 w4 hb4 hx4 hg4; have HB4 := Lib.hid hb4; have HX4 := Lib.hid hx4; have HR4 := Lib.hid (HB3.out.below hx4); have HC4 := Lib.hid (HC3.out.below hx4); clear hb4 hx4) | (with_reducible refine Agg.wpList_loadL (HB4.out.loads (P := Tryz.prog) pC_under rfl (pC_info _ _ HPL.out)) rfl _ rfl rfl ?_) | (refine Agg.wpList_put rfl rfl 27 _ _ rfl gr (pC (parseH l) (parseN l)) (pC z20 []) rfl rfl HR4.out (pC_info _ _ HPL.out) (by rw [pC_size, pC_size, HPL.out]; rfl) (pC_one _ _) ?_; intro w6 hb6 hx6 hs6 hk6))
  have ho6 : Only (· = gr) w4 w6 := Only.of_eq hx6 hs6 hk6 rfl
  exact Agg.post_row rfl rfl hb6 pC_under rfl (pC_info _ _ HPL.out) rfl ⟨rfl, HC4.out.keep ho6 HR4.out (by decide) (by decide), ((HO3.out.trans (Only.of_below (S := fun _ => False) HX4.out) (fun _ _ h => h.elim)).trans ho6 fun i hi h => by omega)⟩
end Go.Proofs.YtpnolgliklmnmaaGreat
/-! A request's fields written. -/
namespace Go.Proofs.YtpnolgliklmnmaaGreat
open Go.RowKit Pl Go.Agg
variable {k u wh : Int} {nm : List UInt8} {vb : Value} {ph pn ch : List UInt8} {w : World} {b : Nat}
theorem rqG_set (j : Nat) (hj : j < 5) (x : Value) : (rqG k u wh nm vb ph pn ch).setIfInBounds j x = (rqH k u wh nm vb).setIfInBounds j x ++ (pC ph pn ++ hC ch) := by
  unfold rqG
  rw [Array.setIfInBounds_append_left (by simpa [rqH] using hj)]
theorem rqB_lt (j : Nat) (hj : j < 5) : j < (rqG k u wh nm vb ph pn ch).size := by simp [rqG, rqH]; omega
theorem rqB_kind (h : Blk w b 29 (rqG k u wh nm vb ph pn ch)) (x : Int) : ∃ w', (Instr.storeAt 22 (.pointer (some ⟨b, 0, none⟩)) (.int .i64 x)).run Tryz.prog w = .ok () w' ∧ Blk w' b 29 (rqG x u wh nm vb ph pn ch) ∧ Only (· = b) w w' :=
  h.run_one 0 (rqB_lt 0 (by omega)) _ rfl rfl (by kernel_rfl) _ (by rw [rqG_set 0 (by omega)]; rfl)
theorem rqB_user (h : Blk w b 29 (rqG k u wh nm vb ph pn ch)) (x : Int) : ∃ w', (Instr.storeAt 3 (.pointer (some ⟨b, 1, none⟩)) (.int .i64 x)).run Tryz.prog w = .ok () w' ∧ Blk w' b 29 (rqG k x wh nm vb ph pn ch) ∧ Only (· = b) w w' :=
  h.run_one 1 (rqB_lt 1 (by omega)) _ rfl rfl (by kernel_rfl) _ (by rw [rqG_set 1 (by omega)]; rfl)
theorem rqB_who (h : Blk w b 29 (rqG k u wh nm vb ph pn ch)) (x : Int) : ∃ w', (Instr.storeAt 3 (.pointer (some ⟨b, 2, none⟩)) (.int .i64 x)).run Tryz.prog w = .ok () w' ∧ Blk w' b 29 (rqG k u x nm vb ph pn ch) ∧ Only (· = b) w w' :=
  h.run_one 2 (rqB_lt 2 (by omega)) _ rfl rfl (by kernel_rfl) _ (by rw [rqG_set 2 (by omega)]; rfl)
theorem rqB_name (h : Blk w b 29 (rqG k u wh nm vb ph pn ch)) (x : List UInt8) : ∃ w', (Instr.storeAt 9 (.pointer (some ⟨b, 3, none⟩)) (.string ⟨x.toArray⟩)).run Tryz.prog w = .ok () w' ∧ Blk w' b 29 (rqG k u wh x vb ph pn ch) ∧ Only (· = b) w w' :=
  h.run_one 3 (rqB_lt 3 (by omega)) _ rfl rfl (by kernel_rfl) _ (by rw [rqG_set 3 (by omega)]; rfl)
theorem rqB_bytes (h : Blk w b 29 (rqG k u wh nm vb ph pn ch)) (x : Value) (hx : x.cells = #[x]) (h1 : x.oneCell' = true) : ∃ w', (Instr.storeAt 23 (.pointer (some ⟨b, 4, none⟩)) x).run Tryz.prog w = .ok () w' ∧ Blk w' b 29 (rqG k u wh nm x ph pn ch) ∧ Only (· = b) w w' :=
  h.run_one 4 (rqB_lt 4 (by omega)) _ hx h1 (by kernel_rfl) _ (by rw [rqG_set 4 (by omega)]; rfl)
theorem rqB_path (h : Blk w b 29 (rqG k u wh nm vb ph pn ch)) (hl : ph.length = 20) (q r : List UInt8) (hq : q.length = 20) : ∃ w', (Instr.storeAt 27 (.pointer (some ⟨b, 5, none⟩)) (.agg (pC q r))).run Tryz.prog w = .ok () w' ∧ Blk w' b 29 (rqG k u wh nm vb q r ch) ∧ Only (· = b) w w' :=
  Blk.run_row (a := rqH k u wh nm vb) (b := pC ph pn) (c := hC ch) (pC q r) h (by rw [pC_size, pC_size, hl, hq]) (pC_info q r hq) (pC_one q r) rfl
theorem rqB_class (h : Blk w b 29 (rqG k u wh nm vb ph pn ch)) (hl : ph.length = 20) (hc : ch.length = 20) (q : List UInt8) (hq : q.length = 20) : ∃ w', (Instr.storeAt 25 (.pointer (some ⟨b, 26, none⟩)) (.agg (hC q))).run Tryz.prog w = .ok () w' ∧ Blk w' b 29 (rqG k u wh nm vb ph pn q) ∧ Only (· = b) w w' := by
  have e1 : ∀ x, rqG k u wh nm vb ph pn x = (rqH k u wh nm vb ++ pC ph pn) ++ (hC x ++ #[]) := fun x => by simp only [rqG, Array.append_assoc, Array.append_empty]
  rw [e1] at h
  rw [e1]
  exact Blk.run_row (i := 26) (a := rqH k u wh nm vb ++ pC ph pn) (b := hC ch) (c := #[]) (hC q) h (by rw [hC_size, hC_size, hc, hq]) (hC_info q hq) (hC_one q) (by simp [pC_size, hl, rqH])
end Go.Proofs.YtpnolgliklmnmaaGreat
/-! Slices of paths: what they hold. -/
namespace Go.Proofs.YtpnolgliklmnmaaGreat
open Go.RowKit Pl Go.Agg
/-- a path whose hash has twenty bytes -/
abbrev P20 : Type := { p : List UInt8 × List UInt8 // p.1.length = 20 }
instance : Inhabited P20 := ⟨⟨(z20, []), rfl⟩⟩
def pV (p : P20) : Value := .agg (pC p.1.1 p.1.2)
def cells20 (p : P20) : List Value := (pC p.1.1 p.1.2).toList
theorem cells20_length (p : P20) : (cells20 p).length = 21 := by simp [cells20, pC_size, p.2]
def flat (l : List P20) : List Value := l.flatMap cells20
theorem flat_length (l : List P20) : (flat l).length = l.length * 21 := by
  induction l with
  | nil => rfl
  | cons p l ih => simp only [flat, List.flatMap_cons, List.length_append, cells20_length, List.length_cons] at ih ⊢; omega
theorem flat_append (a b : List P20) : flat (a ++ b) = flat a ++ flat b := by simp [flat]
theorem flat_get : ∀ (l : List P20) (j : Nat) (p : P20) (i : Nat) (v : Value), l[j]? = some p → (pC p.1.1 p.1.2)[i]? = some v → (flat l)[j * 21 + i]? = some v
  | [], j, p, i, v, h, _ => by simp at h
  | q :: l, 0, p, i, v, h, hv => by
    obtain rfl : q = p := by simpa using h
    have hlt : i < (cells20 q).length := by rw [cells20_length]; have := (Array.getElem?_eq_some_iff.1 hv).1; rw [pC_size, q.2] at this; omega
    rw [flat, List.flatMap_cons, Nat.zero_mul, Nat.zero_add, List.getElem?_append_left hlt]
    simpa [cells20] using hv
  | q :: l, j + 1, p, i, v, h, hv => by
    have ih := flat_get l j p i v (by simpa using h) hv
    rw [flat, List.flatMap_cons, List.getElem?_append_right (by rw [cells20_length]; omega), cells20_length, show (j + 1) * 21 + i - 21 = j * 21 + i by omega]
    exact ih
theorem info_path : ∃ i, Tryz.prog.info? 27 = some i ∧ i.zero = some (.agg (pC z20 [])) ∧ i.size = 21 ∧ i.bytes = 40 := by
  have hz := pC_zero
  have hs : (Tryz.prog.info? 27).map (·.size) = some 21 := by kernel_rfl
  have hb : (Tryz.prog.info? 27).map (·.bytes) = some 40 := by kernel_rfl
  cases hi : Tryz.prog.info? 27 with
  | none => rw [hi] at hz; cases hz
  | some i =>
    rw [hi] at hz hs hb
    exact ⟨i, rfl, Option.some.inj hz, Option.some.inj hs, Option.some.inj hb⟩
theorem cells20_one (p : P20) (v : Value) (hv : v ∈ cells20 p) : v.oneCell' = true := by
  have h := pC_one p.1.1 p.1.2
  rw [Array.all_eq_true_iff_forall_mem] at h
  exact h v (by simpa [cells20] using hv)
/-- paths as elements -/
def E20 : Elem Tryz.prog P20 where
  ty := 27
  st := 44
  n := 21
  bytes := 40
  val := pV
  zero := .agg (pC z20 [])
  pos := by omega
  small := by omega
  size := fun p => by simp [pV, Value.cells, pC_size, p.2]
  one := fun p v hv => cells20_one p v hv
  zsize := by simp [Value.cells, pC_size, z20_length]
  slice := by kernel_rfl
  info := info_path
  load := fun w a p hp h => LoadsL.of_cells hp h pC_under rfl (pC_info _ _ p.2)
/-- a slice of these paths -/
abbrev ElemsAt (w : World) (v : Value) (l : List P20) : Prop := SliceOf E20 w v l
theorem flat20 (l : List P20) : E20.flat l = flat l := rfl
/-- the length of such a slice -/
theorem elems_len {w : World} {v : Value} {l : List P20} (h : ElemsAt w v l) (W : World) : (Builtin.len_ #[44] 3 #[v]).run Tryz.prog W = .ok (.int .i64 (l.length : Int)) W := h.len W
theorem elem_at {w : World} {v : Value} {l : List P20} (h : ElemsAt w v l) (k : Nat) (x : P20) (hx : l[k]? = some x) :
    ∃ p : Addr, (∀ W, (Instr.indexAt 44 v (.int .i64 (k : Int))).run Tryz.prog W = .ok (.pointer (some p)) W) ∧ LoadsL Tryz.prog w 27 (some p) (.agg (pC x.1.1 x.1.2)) ∧ LoadsL Tryz.prog w 9 (some (p.add 20)) (.string ⟨x.1.2.toArray⟩) := by
  obtain ⟨p, h1, h2, h3, h4⟩ := h.at_ k x hx
  exact ⟨p, h1, h4, LoadsL.of_cell (h3 20 _ (pC_name _ _ x.2)) Tryz.underlying9 rfl⟩
end Go.Proofs.YtpnolgliklmnmaaGreat
/-! Replies as bytes: the plain law. -/
namespace Go.Proofs.YtpnolgliklmnmaaGreat
open Go.RowKit Pl Go.Agg
structure Rp where
  e : Int
  ph : List UInt8
  pn : List UInt8
  ch : List UInt8
  g : Int
  l : List P20
  m : Int
def Rp.zero : Rp := ⟨0, z20, [], z20, 0, [], 0⟩
def pathsName (l : List P20) : Bool := l.all fun p => isName p.1.2
def Rp.right (q : Rp) : Bool := (decide (0 ≤ q.e) && decide (q.e ≤ 63)) && ((decide (0 ≤ q.g) && decide (q.g ≤ 1099511627776)) && ((decide (0 ≤ q.m) && decide (q.m ≤ 1099511627776)) && (namedN q.ph q.pn true && (decide (q.l.length ≤ 2000) && pathsName q.l))))
def encP (p : P20) : List UInt8 := encT (pathS p.1.1 p.1.2)
def putRp (q : Rp) : List UInt8 := encN q.e.toNat ++ (encN q.g.toNat ++ (encN q.m.toNat ++ (encT (pathS q.ph q.pn) ++ (q.ch ++ (encN q.l.length ++ q.l.flatMap encP)))))
def sTexts : Nat → Option (List UInt8) → List (List UInt8) × Option (List UInt8)
  | 0, s => ([], s)
  | n + 1, s => ((sText 57 s).1 :: (sTexts n (sText 57 s).2).1, (sTexts n (sText 57 s).2).2)
def rE (b : Option (List UInt8)) := sNum 63 b
def rG (b : Option (List UInt8)) := sNum 1099511627776 (rE b).2
def rM (b : Option (List UInt8)) := sNum 1099511627776 (rG b).2
def rX (b : Option (List UInt8)) := sText 57 (rM b).2
def rH (b : Option (List UInt8)) := sHash (rX b).2
def rC (b : Option (List UInt8)) := sNum 2000 (rH b).2
def rL (b : Option (List UInt8)) := sTexts (rC b).1 (rC b).2
def textP (t : List UInt8) : P20 := ⟨(parseH t, parseN t), parseH_length t⟩
def textOdd (t : List UInt8) : Bool := !(t == [] || (parse t).isSome)
def rRp (b : Option (List UInt8)) : Rp := ⟨((rE b).1 : Int), parseH (rX b).1, parseN (rX b).1, (rH b).1, ((rG b).1 : Int), (rL b).1.map textP, ((rM b).1 : Int)⟩
def rOdd (b : Option (List UInt8)) : Bool := textOdd (rX b).1 || (rL b).1.any textOdd
def getRp (b : List UInt8) : Option Rp := if (rL (some b)).2 = some [] ∧ rOdd (some b) = false ∧ (rRp (some b)).right = true then some (rRp (some b)) else none
theorem sTexts_enc : ∀ (l : List (List UInt8)) (y : List UInt8), (∀ t ∈ l, t.length ≤ 57) → sTexts l.length (some (l.flatMap encT ++ y)) = (l, some y)
  | [], y, _ => by simp [sTexts]
  | t :: l, y, h => by
    have h1 := h t (by simp)
    have e : sText 57 (some ((t :: l).flatMap encT ++ y)) = (t, some (l.flatMap encT ++ y)) := by
      simp only [List.flatMap_cons, List.append_assoc]
      exact sText_enc h1 (by omega) _
    simp only [List.length_cons, sTexts, e, sTexts_enc l y (fun t ht => h t (by simp [ht]))]
theorem sTexts_some : ∀ (n : Nat) (s : Option (List UInt8)) (l : List (List UInt8)) (y : List UInt8), sTexts n s = (l, some y) → s = some (l.flatMap encT ++ y) ∧ l.length = n
  | 0, s, l, y, h => by
    simp only [sTexts, Prod.mk.injEq] at h
    obtain ⟨rfl, rfl⟩ := h
    simp
  | n + 1, s, l, y, h => by
    simp only [sTexts, Prod.mk.injEq] at h
    obtain ⟨rfl, h2⟩ := h
    obtain ⟨h3, h4⟩ := sTexts_some n _ _ y (Prod.ext rfl h2)
    have h5 := (sText_some (Prod.ext (rfl : (sText 57 s).1 = (sText 57 s).1) h3)).1
    refine ⟨h5.trans ?_, by simp [h4]⟩
    simp
theorem sTexts_len : ∀ (n : Nat) (s : Option (List UInt8)), (sTexts n s).1.length = n ∧ stLen (sTexts n s).2 ≤ stLen s
  | 0, s => by simp [sTexts]
  | n + 1, s => by
    obtain ⟨h1, h2⟩ := sTexts_len n (sText 57 s).2
    have := sText_len 57 s
    simp only [sTexts, List.length_cons]
    exact ⟨by omega, by omega⟩
theorem sTexts_snoc : ∀ (n : Nat) (s : Option (List UInt8)), sTexts (n + 1) s = ((sTexts n s).1 ++ [(sText 57 (sTexts n s).2).1], (sText 57 (sTexts n s).2).2)
  | 0, s => by simp [sTexts]
  | n + 1, s => by
    rw [sTexts, sTexts_snoc n]
    simp [sTexts]
structure RightRp (q : Rp) : Prop where
  e : 0 ≤ q.e ∧ q.e ≤ 63
  g : 0 ≤ q.g ∧ q.g ≤ 1099511627776
  m : 0 ≤ q.m ∧ q.m ≤ 1099511627776
  p : isName q.pn = true ∨ q.ph = z20 ∧ q.pn = []
  len : q.l.length ≤ 2000
  names : ∀ p ∈ q.l, isName p.1.2 = true
theorem Rp.right_parts {q : Rp} (h : q.right = true) : RightRp q := by
  unfold Rp.right at h
  simp only [Bool.and_eq_true, decide_eq_true_eq, namedN, Bool.or_eq_true, Bool.true_and, beq_iff_eq, pathsName, List.all_eq_true] at h
  obtain ⟨h1, h2, h3, h4, h5, h6⟩ := h
  exact ⟨h1, h2, h3, h4, h5, h6⟩
theorem textP_path {p : P20} (hn : isName p.1.2 = true) : textP (pathS p.1.1 p.1.2) = p ∧ textOdd (pathS p.1.1 p.1.2) = false := by
  have h := parse_pathS p.2 hn
  refine ⟨Subtype.ext ?_, by simp [textOdd, h]⟩
  show (parseH _, parseN _) = p.1
  simp [parseH, parseN, h]
theorem flat_paths (l : List P20) : l.flatMap encP = (l.map fun p => pathS p.1.1 p.1.2).flatMap encT := by
  rw [List.flatMap_map]
  rfl
/-- what is put is got, whatever stands behind it -/
theorem parse_putRp {q : Rp} (hr : q.right = true) (hp : q.ph.length = 20) (hc : q.ch.length = 20) (y : List UInt8) :
    rRp (some (putRp q ++ y)) = q ∧ (rL (some (putRp q ++ y))).2 = some y ∧ rOdd (some (putRp q ++ y)) = false := by
  have R := Rp.right_parts hr
  obtain ⟨e, ph, pn, ch, g, l, m⟩ := q
  obtain ⟨he, hg, hm, hpp, hll, hn⟩ := R
  simp only at *
  obtain ⟨e, rfl⟩ : ∃ n : Nat, e = n := ⟨e.toNat, by omega⟩
  obtain ⟨g, rfl⟩ : ∃ n : Nat, g = n := ⟨g.toNat, by omega⟩
  obtain ⟨m, rfl⟩ : ∃ n : Nat, m = n := ⟨m.toNat, by omega⟩
  have eE : rE (some (putRp ⟨e, ph, pn, ch, g, l, m⟩ ++ y)) = (e, some (encN g ++ (encN m ++ (encT (pathS ph pn) ++ (ch ++ (encN l.length ++ (l.flatMap encP ++ y))))))) := by
    unfold rE putRp
    simp only [Int.toNat_natCast, List.append_assoc]
    exact sNum_enc (by omega) (by omega) _
  have eG : rG (some (putRp ⟨e, ph, pn, ch, g, l, m⟩ ++ y)) = (g, some (encN m ++ (encT (pathS ph pn) ++ (ch ++ (encN l.length ++ (l.flatMap encP ++ y)))))) := by
    unfold rG; rw [eE]; exact sNum_enc (by omega) (by omega) _
  have eM : rM (some (putRp ⟨e, ph, pn, ch, g, l, m⟩ ++ y)) = (m, some (encT (pathS ph pn) ++ (ch ++ (encN l.length ++ (l.flatMap encP ++ y))))) := by
    unfold rM; rw [eG]; exact sNum_enc (by omega) (by omega) _
  have eX : rX (some (putRp ⟨e, ph, pn, ch, g, l, m⟩ ++ y)) = (pathS ph pn, some (ch ++ (encN l.length ++ (l.flatMap encP ++ y)))) := by
    have := pathS_le (n := pn) ph
    unfold rX; rw [eM]; exact sText_enc (by omega) (by omega) _
  have eH : rH (some (putRp ⟨e, ph, pn, ch, g, l, m⟩ ++ y)) = (ch, some (encN l.length ++ (l.flatMap encP ++ y))) := by
    unfold rH; rw [eX]; exact sHash_enc hc _
  have eC : rC (some (putRp ⟨e, ph, pn, ch, g, l, m⟩ ++ y)) = (l.length, some (l.flatMap encP ++ y)) := by
    unfold rC; rw [eH]; exact sNum_enc (by omega) (by omega) _
  have eL : rL (some (putRp ⟨e, ph, pn, ch, g, l, m⟩ ++ y)) = (l.map (fun p => pathS p.1.1 p.1.2), some y) := by
    unfold rL
    rw [eC, flat_paths]
    have := sTexts_enc (l.map fun p => pathS p.1.1 p.1.2) y (fun t ht => by
      obtain ⟨p, _, rfl⟩ := List.mem_map.1 ht
      exact pathS_le _)
    rwa [List.length_map] at this
  have hpe : parseH (pathS ph pn) = ph ∧ parseN (pathS ph pn) = pn ∧ textOdd (pathS ph pn) = false := by
    rcases hpp with h1 | ⟨rfl, rfl⟩
    · have := parse_pathS hp h1
      simp [parseH, parseN, textOdd, this]
    · simp [parseH, parseN, textOdd, pathS_none isName_nil, parse_nil]
  refine ⟨?_, by rw [eL], ?_⟩
  · unfold rRp
    rw [eE, eG, eM, eX, eH, eL]
    simp only [hpe.1, hpe.2.1, List.map_map]
    congr 1
    conv => rhs; rw [← List.map_id l]
    exact List.map_congr_left fun p h => (textP_path (hn p h)).1
  · unfold rOdd
    rw [eX, eL]
    simp only [hpe.2.2, Bool.false_or, List.any_map]
    rw [List.any_eq_false]
    intro p h
    simp [(textP_path (hn p h)).2]
theorem getRp_put {q : Rp} (hr : q.right = true) (hp : q.ph.length = 20) (hc : q.ch.length = 20) : getRp (putRp q) = some q := by
  obtain ⟨h1, h2, h3⟩ := parse_putRp hr hp hc []
  rw [List.append_nil] at h1 h2 h3
  unfold getRp
  rw [if_pos ⟨h2, h3, by rw [h1]; exact hr⟩, h1]
theorem getRp_more {q : Rp} (hr : q.right = true) (hp : q.ph.length = 20) (hc : q.ch.length = 20) {y : List UInt8} (hy : y ≠ []) : getRp (putRp q ++ y) = none := by
  obtain ⟨_, h2, _⟩ := parse_putRp hr hp hc y
  unfold getRp
  rw [if_neg]
  rintro ⟨h, _⟩
  rw [h2] at h
  exact hy (by simpa using h)
theorem putRp_parse {b : List UInt8} (he : (rL (some b)).2 = some []) (ho : rOdd (some b) = false) : putRp (rRp (some b)) = b := by
  obtain ⟨sL, hlen⟩ := sTexts_some _ _ _ _ (Prod.ext (rfl : (rL (some b)).1 = (rL (some b)).1) he : sTexts (rC (some b)).1 (rC (some b)).2 = ((rL (some b)).1, some []))
  have sC := (sNum_some (Prod.ext (rfl : (rC (some b)).1 = (rC (some b)).1) sL)).1
  have sH := (sHash_some (Prod.ext (rfl : (rH (some b)).1 = (rH (some b)).1) sC)).1
  have sX := (sText_some (Prod.ext (rfl : (rX (some b)).1 = (rX (some b)).1) sH)).1
  have sM := (sNum_some (Prod.ext (rfl : (rM (some b)).1 = (rM (some b)).1) sX)).1
  have sG := (sNum_some (Prod.ext (rfl : (rG (some b)).1 = (rG (some b)).1) sM)).1
  have sE := (sNum_some (Prod.ext (rfl : (rE (some b)).1 = (rE (some b)).1) sG)).1
  have hb := Option.some.inj sE
  unfold rOdd at ho
  rw [Bool.or_eq_false_iff] at ho
  have hl : ((rL (some b)).1.map textP).flatMap encP = (rL (some b)).1.flatMap encT := by
    rw [List.flatMap_map]
    have : ∀ l : List (List UInt8), l.any textOdd = false → (l.flatMap fun t => encP (textP t)) = l.flatMap encT := by
      intro l
      induction l with
      | nil => intro _; rfl
      | cons t l ih =>
        intro h
        simp only [List.any_cons, Bool.or_eq_false_iff] at h
        simp only [List.flatMap_cons, ih h.2]
        congr 1
        show encT (pathS (parseH t) (parseN t)) = _
        rw [pathS_text h.1]
    exact this _ ho.2
  unfold putRp rRp
  simp only [Int.toNat_natCast, pathS_text ho.1, hl, List.length_map, hlen]
  rw [List.append_nil] at hb
  exact hb.symm
theorem rRp_hash (b : Option (List UInt8)) : (rRp b).ph.length = 20 ∧ (rRp b).ch.length = 20 := ⟨parseH_length _, sHash_length _⟩
theorem putRp_get {b : List UInt8} {q : Rp} (h : getRp b = some q) : q.right = true ∧ putRp q = b ∧ q.ph.length = 20 ∧ q.ch.length = 20 := by
  unfold getRp at h
  split at h
  · rename_i hc
    obtain ⟨h1, h2, h3⟩ := hc
    obtain rfl := Option.some.inj h
    exact ⟨h3, putRp_parse h1 h2, (rRp_hash _).1, (rRp_hash _).2⟩
  · cases h
def getRpD (b : List UInt8) : Option Rp := if (rRp (some b)).right = true ∧ (rL (some b)).2 = some [] ∧ putRp (rRp (some b)) = b then some (rRp (some b)) else none
theorem getRpD_eq (b : List UInt8) : getRpD b = getRp b := by
  cases h : getRp b with
  | some q =>
    obtain ⟨hr, hb, hp, hc⟩ := putRp_get h
    obtain ⟨h1, h2, _⟩ := parse_putRp hr hp hc []
    rw [List.append_nil, hb] at h1 h2
    unfold getRpD
    rw [if_pos ⟨by rw [h1]; exact hr, h2, by rw [h1]; exact hb⟩, h1]
  | none =>
    unfold getRpD
    split
    · rename_i hc
      obtain ⟨h1, _, h3⟩ := hc
      have := getRp_put h1 (rRp_hash _).1 (rRp_hash _).2
      rw [h3, h] at this
      cases this
    · rfl
theorem getRp_less {q : Rp} (hr : q.right = true) (hp : q.ph.length = 20) (hc : q.ch.length = 20) {x y : List UInt8} (hy : y ≠ []) (hx : putRp q = x ++ y) : getRp x = none := by
  cases h : getRp x with
  | none => rfl
  | some p =>
    obtain ⟨hr', hb', hp', hc'⟩ := putRp_get h
    have := getRp_more hr' hp' hc' hy
    rw [hb', ← hx, getRp_put hr hp hc] at this
    cases this
theorem putRp_pos (q : Rp) : putRp q ≠ [] := by
  unfold putRp
  intro h
  have h1 := (List.append_eq_nil_iff.1 h).1
  rw [encN] at h1
  split at h1 <;> simp at h1
end Go.Proofs.YtpnolgliklmnmaaGreat
