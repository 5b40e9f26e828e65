/- spenceref03.Parse: the same answer as base.Parse. (Several texts in one.) -/
import Derived.Test.YtpnolgliklmnmaaGreatCuR2
import Derived.Test.YtpnolgliklmnmaaGreatGAF
import Derived.Test.YtpnolgliklmnmaaGreatGAK
import Derived.Test.YtpnolgliklmnmaaGreatGAM
import Derived.Test.YtpnolgliklmnmaaGreatGAL
import Derived.Test.YtpnolgliklmnmaaGreatGAA
/-! spenceref01.Cursor as a state: contracts without cases; Text. -/
namespace Go.Proofs.YtpnolgliklmnmaaGreat
open Go.RowKit Pl Go.Agg
set_option maxRecDepth 100000 in
set_option maxHeartbeats 1000000 in
theorem rcnum_any (base g most : Nat) (s : Option (List UInt8)) (w : World) (hl : stLen s ≤ 16777216) (hmo : most ≤ 1099511627776) (h : CrS base g w s) :
    Calls Tryz.prog 59 #[.pointer (some ⟨g, 0, none⟩), .int .i64 (most : Int)] w fun x w' => x = .returned (.int .i64 ((sNum most s).1 : Int)) ∧ CrS base g w' (sNum most s).2 ∧ Only (· = g) w w' := by
  obtain ⟨v, r, e, hv, hbad, rfl⟩ := h
  by_cases h0 : e = 0
  · subst h0
    refine (rcnum_good base g most v r w (by simpa [stLen] using hl) hmo hv).mono ?_
    rintro x w' ⟨hc, ho⟩
    rcases hc with ⟨n, y, v', hg, rfl, hcu⟩ | ⟨hg, rfl, hcu⟩
    · simp only [if_true, sNum, hg]
      exact ⟨trivial, CrS.good hcu, ho⟩
    · simp only [if_true, sNum, hg]
      exact ⟨rfl, CrS.bad hcu, ho⟩
  · obtain ⟨rfl, rfl⟩ := hbad h0
    simp only [if_neg h0, sNum]
    have hq : ((e : Int) == 0) = false := by simp [h0]
    have H0 := Lib.hid h0
    have HM := Lib.hid hv
    have hlr := fun W => bytes_len hv.rest.slice W
    clear h0 hv hbad hl
    go_enter Tryz.func59, Tryz.ntmps59
    go_wp2_with fail
    go_loopw [5, 6, 7] (fun nn u i wr => i = .int .i64 0 ∧ wr = w) (fun _ _ i _ => 0)
    case atStart => exact ⟨rfl, rfl⟩
    case round =>
      obtain ⟨rfl, rfl⟩ := hrel
      go_wp2_with (first | (with_reducible refine Agg.wpList_loadL HM.out.load rfl _ rfl rfl ?_) | (with_reducible refine Agg.wpList_loadL HM.out.err rfl _ rfl rfl ?_))
      refine (rfail_any base g (.slice none 0 0) [] e 4 _ HM.out).mono ?_
      rintro x w9 ⟨⟨rr, rfl⟩, hcu, hon⟩
      rw [if_neg H0.out] at hcu
      have HCU := Lib.hid hcu
      have HON := Lib.hid hon
      clear hcu hon
      go_wp2_with fail
      go_ret
      exact ⟨rfl, CrS.bad ⟨e, H0.out, HCU.out⟩, HON.out⟩
set_option maxRecDepth 100000 in
set_option maxHeartbeats 1000000 in
theorem rcraw_any (base g many : Nat) (s : Option (List UInt8)) (w : World) (hl : stLen s ≤ 16777216) (hmo : many ≤ 1099511627776) (h : CrS base g w s) :
    Calls Tryz.prog 62 #[.pointer (some ⟨g, 0, none⟩), .int .i64 (many : Int)] w fun x w' => ∃ u, x = .returned u ∧ Own EB w.heap.size w' u (sRaw many s).1 ∧ CrS base g w' (sRaw many s).2 ∧ Only (· = g) w w' := by
  obtain ⟨v, r, e, hv, hbad, rfl⟩ := h
  by_cases h0 : e = 0
  · subst h0
    by_cases hle : many ≤ r.length
    · refine (rcraw_good base g many v r w (by simpa [stLen] using hl) hle hv).mono ?_
      rintro x w' ⟨u, v', rfl, hu, hcu, ho⟩
      simp only [if_true, sRaw, if_pos hle]
      exact ⟨u, rfl, hu, CrS.good hcu, ho⟩
    · simp only [if_true, sRaw, if_neg hle]
      have hI : (r.length : Int) < (many : Int) := by omega
      have hI0 : ¬ (many : Int) < 0 := by omega
      have HM := Lib.hid hv
      have hlr := fun W => bytes_len hv.rest.slice W
      clear hv hbad hl hle
      go_enter Tryz.func62, Tryz.ntmps62
      go_wp2_with (first | (with_reducible refine Agg.wpList_loadL HM.out.load rfl _ rfl rfl ?_) | (with_reducible refine Agg.wpList_loadL HM.out.err rfl _ rfl rfl ?_))
      refine (rfail_any base g v r 0 4 _ HM.out).mono ?_
      rintro x w9 ⟨⟨rr, rfl⟩, hcu, hon⟩
      have HCU := Lib.hid hcu
      have HON := Lib.hid hon
      clear hcu hon
      go_wp2_with fail
      go_ret
      exact ⟨_, rfl, Own.nil _ _ _, CrS.bad ⟨4, by omega, HCU.out⟩, HON.out⟩
  · obtain ⟨rfl, rfl⟩ := hbad h0
    simp only [if_neg h0, sRaw]
    have hq : ((e : Int) != 0) = true := by simp [h0]
    have H0 := Lib.hid h0
    have HM := Lib.hid hv
    clear h0 hv hbad hl
    go_enter Tryz.func62, Tryz.ntmps62
    go_wp2_with (first | (with_reducible refine Agg.wpList_loadL HM.out.load rfl _ rfl rfl ?_) | (with_reducible refine Agg.wpList_loadL HM.out.err rfl _ rfl rfl ?_))
    refine (rfail_any base g (.slice none 0 0) [] e 4 _ HM.out).mono ?_
    rintro x w9 ⟨⟨rr, rfl⟩, hcu, hon⟩
    rw [if_neg H0.out] at hcu
    have HCU := Lib.hid hcu
    have HON := Lib.hid hon
    clear hcu hon
    go_wp2_with fail
    go_ret
    exact ⟨_, rfl, Own.nil _ _ _, CrS.bad ⟨e, H0.out, HCU.out⟩, HON.out⟩
theorem rcnum_40 (base g : Nat) (s : Option (List UInt8)) (w : World) (hl : stLen s ≤ 16777216) (h : CrS base g w s) :
    Calls Tryz.prog 59 #[.pointer (some ⟨g, 0, none⟩), .int .i64 1099511627776] w fun x w' => x = .returned (.int .i64 ((sNum 1099511627776 s).1 : Int)) ∧ CrS base g w' (sNum 1099511627776 s).2 ∧ Only (· = g) w w' := by
  have h1 := rcnum_any base g 1099511627776 s w hl (Nat.le_refl _) h
  rw [show ((1099511627776 : Nat) : Int) = (1099511627776 : Int) from by simp] at h1
  exact h1
theorem sText_num (most : Nat) (s : Option (List UInt8)) : sText most s = match (sNum 1099511627776 s).2 with
    | none => ([], none)
    | some y => if (sNum 1099511627776 s).1 ≤ most then sRaw (sNum 1099511627776 s).1 (some y) else ([], none) := by
  cases s with
  | none => rfl
  | some r =>
    cases hg : getN 1099511627776 r with
    | none => simp [sText, getT, sNum, hg]
    | some p =>
      obtain ⟨n, y⟩ := p
      have e : sNum 1099511627776 (some r) = (n, some y) := by simp only [sNum, hg]
      rw [e]
      simp only [sText, getT, hg, sRaw]
      by_cases h1 : n ≤ most <;> by_cases h2 : n ≤ y.length <;> simp [h1, h2]
set_option maxRecDepth 100000 in
set_option maxHeartbeats 2000000 in
theorem rctext_any (base g most : Nat) (s : Option (List UInt8)) (w : World) (hl : stLen s ≤ 16777216) (h : CrS base g w s) :
    Calls Tryz.prog 60 #[.pointer (some ⟨g, 0, none⟩), .int .i64 (most : Int)] w fun x w' => ∃ u, x = .returned u ∧ Own EB w.heap.size w' u (sText most s).1 ∧ CrS base g w' (sText most s).2 ∧ Only (· = g) w w' := by
  rw [sText_num]
  have hle := sNum_len 1099511627776 s
  have hn40 : (sNum 1099511627776 s).1 ≤ 1099511627776 := by
    cases s with
    | none => simp [sNum]
    | some r =>
      simp only [sNum]
      cases hg : getN 1099511627776 r with
      | none => simp
      | some p => obtain ⟨n, y⟩ := p; exact (getN_some hg).2.1
  have HC := Lib.hid (rcnum_40 base g s w hl h)
  obtain ⟨n, s', hns⟩ : ∃ n s', sNum 1099511627776 s = (n, s') := ⟨_, _, rfl⟩
  rw [hns] at hle hn40
  simp only [hns]
  have HNS := Lib.hid hns
  clear h hns
  go_enter Tryz.func60, Tryz.ntmps60
  go_wp2_with fail
  refine HC.out.mono ?_
  rintro x w1 ⟨rfl, hc, ho⟩
  rw [HNS.out] at hc ⊢
  obtain ⟨v1, r1, e1, hv1, hbad, hs'⟩ := hc
  have HO := Lib.hid ho
  have HM := Lib.hid hv1
  have hlr := fun W => bytes_len hv1.rest.slice W
  have hsz := ho.size
  clear ho hv1 HC
  by_cases h0 : e1 = 0
  · subst h0
    rw [if_pos rfl] at hs'
    have hs' : s' = some r1 := hs'
    subst hs'
    by_cases hm : n ≤ most
    · have hI : ¬ (most : Int) < (n : Int) := by omega
      have HMO := Lib.hid hm
      clear hbad hm
      go_wp2_with (first | (with_reducible refine Agg.wpList_loadL HM.out.err rfl _ rfl rfl ?_))
      refine (rcraw_any base g n (some r1) _ (Nat.le_trans hle hl) hn40 (CrS.good HM.out)).mono ?_
      rintro x w2 ⟨u, rfl, hu, hcu, ho2⟩
      have HU := Lib.hid (hu.lower hsz)
      have HCU := Lib.hid hcu
      have HON := Lib.hid (HO.out.trans ho2 fun _ _ h => h)
      clear hu hcu ho2
      go_wp2_with fail
      go_ret
      all_goals first
        | exact ⟨_, rfl, HU.out, HCU.out, HON.out⟩
        | (exfalso; have := HMO.out; omega)
    · have hI : (most : Int) < (n : Int) := by omega
      have HMO := Lib.hid hm
      clear hbad hm
      go_wp2_with (first | (with_reducible refine Agg.wpList_loadL HM.out.err rfl _ rfl rfl ?_))
      refine (rfail_any base g v1 r1 0 3 _ HM.out).mono ?_
      rintro x w9 ⟨⟨rr, rfl⟩, hcu, hon⟩
      have HCU := Lib.hid hcu
      have HON := Lib.hid (HO.out.trans hon fun _ _ h => h)
      clear hcu hon
      go_wp2_with (first | (with_reducible refine Agg.wpList_loadL HCU.out.err rfl _ rfl rfl ?_))
      go_ret
      all_goals first
        | exact ⟨_, rfl, Own.nil _ _ _, CrS.bad ⟨3, by omega, HCU.out⟩, HON.out⟩
        | (exfalso; have := HMO.out; omega)
  · rw [if_neg h0] at hs'
    have hs' : s' = none := hs'
    subst hs'
    obtain ⟨rfl, rfl⟩ := hbad h0
    have hq : ((e1 : Int) == 0) = false := by simp [h0]
    have hq2 : ((e1 : Int) != 0) = true := by simp [h0]
    have H0 := Lib.hid h0
    clear h0 hbad
    go_wp2_with (first | (with_reducible refine Agg.wpList_loadL HM.out.err rfl _ rfl rfl ?_))
    go_ret
    exact ⟨_, rfl, Own.nil _ _ _, CrS.bad ⟨e1, H0.out, HM.out⟩, HO.out⟩
end Go.Proofs.YtpnolgliklmnmaaGreat
/-! Blocks that a step leaves alone. -/
namespace Go.Agg
open Go.RowKit
variable {P : Program}
theorem Blk.type {w : World} {g : Nat} {t t' : TypeId} {cs cs' : Array Value} (h : Blk w g t cs) (h' : Blk w g t' cs') : t = t' := by
  unfold Blk at h h'
  rw [h] at h'
  injection h' with h'
  injection h' with _ h'
theorem Blk.only {w w' : World} {S : Nat → Prop} {g : Nat} {t : TypeId} {cs : Array Value} (h : Blk w g t cs) (ho : Only S w w') (hS : ¬ S g) : Blk w' g t cs := (ho.block g h.lt hS).trans h
theorem Only.of_eq {w w' : World} {g : Nat} {S : Nat → Prop} (hb : Below g w w') (hs : w'.heap.size = w.heap.size) (hk : ∀ k, k ≠ g → w'.heap[k]? = w.heap[k]?) (hg : S g) : Only S w w' :=
  ⟨hb.os, hb.tape, hb.output, Nat.le_of_eq hs.symm, fun k _ hn => hk k (fun e => hn (e ▸ hg))⟩
end Go.Agg
/-! spenceref03.Hash, any text. -/
namespace Go.Proofs.YtpnolgliklmnmaaGreat
open Go.RowKit Pl Go.Mp Go.Agg
theorem refHash_any (s : List UInt8) (w : World) :
    Calls Tryz.prog 128 #[.string ⟨s.toArray⟩] w fun e w' => e = .returned (.tuple #[.agg (hC (hashH s)), .int .i64 (hashE s)]) ∧ Below w.heap.size w w' := by
  by_cases h : s.length = 32
  · exact refHash_32 s h w
  · have : Pl.hash s = none := by unfold Pl.hash; rw [if_neg h]
    have h1 : hashH s = z20 := by simp [hashH, this]
    have h2 : hashE s = 4 := by simp [hashE, this]
    rw [h1, h2]
    exact refHash_long s h w
end Go.Proofs.YtpnolgliklmnmaaGreat
/-! spenceref03.Parse: the same answer as base.Parse. -/
namespace Go.Proofs.YtpnolgliklmnmaaGreat
open Go.RowKit Pl Go.Mp Go.Agg
theorem pathBuilt : ∀ parts, Tryz.prog.built 27 parts = Instr.fill (#[(0, 20), (20, 1)][·]?) (pC z20 []) parts := fun _ => by kernel_rfl
theorem pC_splice0 (h h' n : List UInt8) (hl : h.length = 20) (hl' : h'.length = 20) : Go.Agg.splice (pC h n) 0 (hC h') = pC h' n := pC_setHash h h' n hl hl'
theorem pC_splice1 (h n n' : List UInt8) (hl : h.length = 20) : Go.Agg.splice (pC h n) 20 #[.string ⟨n'.toArray⟩] = pC h n' := by
  apply Array.ext'
  simp [Go.Agg.splice, pC, hC, Lib.byteCells, hl]
theorem build_path (h n : List UInt8) (hl : h.length = 20) (w : World) : (Instr.build 27 #[(0, .agg (hC h)), (1, .string ⟨n.toArray⟩)]).run Tryz.prog w = .ok (.agg (pC h n)) w := by
  refine run_build w _ _ _ ?_
  rw [pathBuilt]
  rw [fill_cons (off := 0) (size := 20) rfl (by simp [Value.cells, hC_size, hl]) (by rw [pC_size, z20_length]; omega)]
  rw [fill_cons (off := 20) (size := 1) rfl rfl (by rw [Go.Agg.splice_size _ _ _ (by simp [Value.cells, hC_size, pC_size, z20_length, hl]), pC_size, z20_length]; omega)]
  rw [fill_nil]
  exact congrArg some (by simp only [Value.cells]; rw [pC_splice0 _ _ _ z20_length hl, pC_splice1 _ _ _ hl])
theorem build_zeroPath (w : World) : (Instr.build 27 #[]).run Tryz.prog w = .ok (.agg (pC z20 [])) w := by kernel_rfl
theorem ext_from (s : List UInt8) (i : Nat) : ByteArray.extract ⟨s.toArray⟩ i s.length = ⟨(s.drop i).toArray⟩ := by rw [Agg.bytes_extract, List.take_length]
theorem ext_to (s : List UInt8) (i : Nat) : ByteArray.extract ⟨s.toArray⟩ 0 i = ⟨(s.take i).toArray⟩ := by rw [Agg.bytes_extract, List.drop_zero]
set_option maxRecDepth 100000 in
set_option maxHeartbeats 1000000 in
theorem refParse_any (s : List UInt8) (hs : s.length ≤ 9223372036854775807) (w : World) :
    Calls Tryz.prog 92 #[.string ⟨s.toArray⟩] w fun e w' => e = .returned (.tuple #[.agg (pC (parseH s) (parseN s)), .int .i64 (parseE s)]) ∧ Below w.heap.size w w' := by
  have hsz := Agg.bytes_size s
  have hlen : ∀ w, (Builtin.len_ #[9] 3 #[.string ⟨s.toArray⟩]).run Tryz.prog w = .ok (.int .i64 (s.length : Int)) w := fun w => by rw [run_len_string w 9 3 _ Tryz.underlying9, hsz]; rfl
  have HS := Lib.hid hsz
  clear hsz
  have hb := heap_alloc_new w (.cells (pC z20 []) 27)
  have hpr := parse_ref s
  have HR := Lib.hid hpr
  clear hpr
  by_cases h34 : 34 ≤ s.length
  · have hd : decide ((s.length : Int) < 34) = false := by simp; omega
    have hix : ∀ w, (Instr.index 9 (.string ⟨s.toArray⟩) (.int .i64 32)).run Tryz.prog w = .ok (.int .u8 ((s[32]?.getD 0).toNat : Int)) w := fun w => Agg.run_index_str (i := 32) w Tryz.underlying9 (by simp [List.getElem?_eq_getElem (show 32 < s.length by omega)])
    cases h45 : (((s[32]?.getD 0).toNat : Int) != 45) with
    | true =>
      have hp : parseH s = z20 ∧ parseN s = [] ∧ parseE s = 4 := by
        have h45' : (s[32]?.getD 0 == 45) = false := by
          cases h : (s[32]?.getD 0 == 45) with
          | false => rfl
          | true => rw [beq_iff_eq.1 h] at h45; simp at h45
        have : parse s = none := by rw [HR.out, h45']; simp
        simp [parseH, parseN, parseE, this]
      have HP := Lib.hid hp
      clear hp
      go_enter Tryz.func92, Tryz.ntmps92
      go_wp2_with (first | (with_reducible refine Agg.wpList_alloc_row rfl 27 rfl (pC z20 []) pC_zero ?_) | (with_reducible refine Agg.wpList_build_zero rfl 27 rfl (.agg (pC z20 [])) build_zeroPath ?_) | (with_reducible refine Agg.wpList_set_row rfl rfl 27 _ _ rfl w.heap.size (pC z20 []) rfl rfl 27 _ hb (pC_info _ _ z20_length) rfl (pC_one _ _) ?_))
      exact Agg.post_row_tmp rfl rfl rfl (setRow_heap _ _ _ _ _ _ hb) pC_under rfl (pC_info _ _ z20_length) rfl ⟨by rw [HP.out.1, HP.out.2.1, HP.out.2.2]; rfl, Agg.below_setRow ((Below.refl _ _).alloc (Nat.le_refl _) _) (Nat.le_refl _)⟩
    | false =>
      have h45' : (s[32]?.getD 0 == 45) = true := by
        have : ((s[32]?.getD 0).toNat : Int) = 45 := by simpa using h45
        rw [beq_iff_eq, ← UInt8.toNat_inj]; simp; omega
      have H45 := Lib.hid h45'
      clear h45'
      have hdl : (s.drop 33).length ≤ 9223372036854775807 := by simp; omega
      cases hn : isName (s.drop 33) with
      | false =>
        have hp : parseH s = z20 ∧ parseN s = [] ∧ parseE s = 4 := by
          have : parse s = none := by rw [HR.out, hn]; simp
          simp [parseH, parseN, parseE, this]
        have HP := Lib.hid hp
        clear hp
        go_enter Tryz.func92, Tryz.ntmps92
        go_wp2_with (first | (with_reducible refine Agg.wpList_alloc_row rfl 27 rfl (pC z20 []) pC_zero ?_))
        rw [ext_from]
        refine (refName_any _ hdl _).mono ?_
        rintro e w1 ⟨rfl, rfl⟩
        rw [hn]
        go_wp2_with (first | (with_reducible refine Agg.wpList_build_zero rfl 27 rfl (.agg (pC z20 [])) build_zeroPath ?_) | (with_reducible refine Agg.wpList_set_row rfl rfl 27 _ _ rfl w.heap.size (pC z20 []) rfl rfl 27 _ hb (pC_info _ _ z20_length) rfl (pC_one _ _) ?_))
        exact Agg.post_row_tmp rfl rfl rfl (setRow_heap _ _ _ _ _ _ hb) pC_under rfl (pC_info _ _ z20_length) rfl ⟨by rw [HP.out.1, HP.out.2.1, HP.out.2.2]; rfl, Agg.below_setRow ((Below.refl _ _).alloc (Nat.le_refl _) _) (Nat.le_refl _)⟩
      | true =>
        go_enter Tryz.func92, Tryz.ntmps92
        go_wp2_with (first | (with_reducible refine Agg.wpList_alloc_row rfl 27 rfl (pC z20 []) pC_zero ?_))
        rw [ext_from]
        refine (refName_any _ hdl _).mono ?_
        rintro e w1 ⟨rfl, rfl⟩
        rw [hn]
        go_wp2_with fail
        rw [ext_to]
        refine (refHash_any _ _).mono ?_
        rintro e w1 ⟨rfl, hw1⟩
        have hb1 := Agg.keep' hw1 hb
        have hw : Below w.heap.size w w1 := ((Below.refl _ _).alloc (Nat.le_refl _) _).trans (hw1.mono (by simp))
        have hlt : w.heap.size < w1.heap.size := Agg.heap_lt hb1
        clear hw1 hb
        cases hh : Pl.hash (s.take 32) with
        | none =>
          have he : hashE (s.take 32) = 4 := by simp [hashE, hh]
          have hz : hashH (s.take 32) = z20 := by simp [hashH, hh]
          have hp : parseH s = z20 ∧ parseN s = [] ∧ parseE s = 4 := by
            have : parse s = none := by rw [HR.out, hh]; simp
            simp [parseH, parseN, parseE, this]
          have HP := Lib.hid hp
          rw [he, hz]
          clear hp he hz
          have hb2 : (w1.alloc (.cells (hC z20) 25)).heap[w.heap.size]? = _ := (heap_alloc_old _ _ hlt).trans hb1
          have hb3 := heap_alloc_new w1 (.cells (hC z20) 25)
          have hb4 : ((w1.alloc (.cells (hC z20) 25)).setRow w1.heap.size (hC z20)).heap[w.heap.size]? = _ := (setRow_other _ _ _ _ (by omega)).trans hb2
          go_wp2_with (first | (with_reducible refine Agg.wpList_alloc_row rfl 25 rfl (hC z20) z20_zero ?_) | (with_reducible refine Agg.wpList_set_row rfl rfl 25 _ _ rfl w1.heap.size (hC z20) rfl rfl 25 _ hb3 (hC_info _ z20_length) rfl (hC_one _) ?_) | (with_reducible refine Agg.wpList_build_zero rfl 27 rfl (.agg (pC z20 [])) build_zeroPath ?_) | (with_reducible refine Agg.wpList_set_row rfl rfl 27 _ _ rfl w.heap.size (pC z20 []) rfl rfl 27 _ hb4 (pC_info _ _ z20_length) rfl (pC_one _ _) ?_))
          exact Agg.post_row_tmp rfl rfl rfl (setRow_heap _ _ _ _ _ _ hb4) pC_under rfl (pC_info _ _ z20_length) rfl ⟨by rw [HP.out.1, HP.out.2.1, HP.out.2.2]; rfl, Agg.below_setRow (Agg.below_setRow (hw.alloc (by omega) _) (by omega)) (Nat.le_refl _)⟩
        | some h =>
          have hl := hash_length hh
          have he : hashE (s.take 32) = 0 := by simp [hashE, hh]
          have hz : hashH (s.take 32) = h := by simp [hashH, hh]
          have hp : parseH s = h ∧ parseN s = s.drop 33 ∧ parseE s = 0 := by
            have : parse s = some (h, s.drop 33) := by rw [HR.out, hh, H45.out, hn]; simp [h34]
            simp [parseH, parseN, parseE, this]
          have HP := Lib.hid hp
          have HLn := Lib.hid hl
          rw [he, hz]
          clear hp he hz hl
          have hb2 : (w1.alloc (.cells (hC z20) 25)).heap[w.heap.size]? = _ := (heap_alloc_old _ _ hlt).trans hb1
          have hb3 := heap_alloc_new w1 (.cells (hC z20) 25)
          have hb4 : ((w1.alloc (.cells (hC z20) 25)).setRow w1.heap.size (hC h)).heap[w.heap.size]? = _ := (setRow_other _ _ _ _ (by omega)).trans hb2
          have hb5 := setRow_heap _ _ _ (hC h) _ _ hb3
          have hsz2 : Hid ((hC z20).size = (hC h).size) := Lib.hid (by rw [hC_size, hC_size, HLn.out]; rfl)
          have hsz3 : Hid ((pC z20 []).size = (pC h (s.drop 33)).size) := Lib.hid (by rw [pC_size, pC_size, HLn.out]; rfl)
          have hw4 : Below w.heap.size w ((w1.alloc (.cells (hC z20) 25)).setRow w1.heap.size (hC h)) := Agg.below_setRow (hw.alloc (by omega) _) (by omega)
          go_wp2_with (first | (with_reducible refine Agg.wpList_alloc_row rfl 25 rfl (hC z20) z20_zero ?_) | (with_reducible refine Agg.wpList_set_row rfl rfl 25 _ _ rfl w1.heap.size (hC h) rfl rfl 25 _ hb3 (hC_info _ HLn.out) hsz2.out (hC_one _) ?_))
          generalize (w1.alloc (.cells (hC z20) 25)).setRow w1.heap.size (hC h) = w4 at *
          refine wp_region_still_tail 3 (by kernel_rfl) (by kernel_rfl) ?_
          have hb5d : ({ w4 with drawn := w4.drawn + 1 } : World).heap[w1.heap.size]? = _ := hb5
          have hb4d : ({ w4 with drawn := w4.drawn + 1 } : World).heap[w.heap.size]? = _ := hb4
          have hwd : Below w.heap.size w { w4 with drawn := w4.drawn + 1 } := hw4.drew
          generalize ({ w4 with drawn := w4.drawn + 1 } : World) = w5 at *
          simp only [List.take_succ_cons, List.take_zero, List.drop_succ_cons, List.drop_zero]
          with_reducible refine Agg.wpStill_load rfl 25 _ rfl (.pointer (some ⟨w1.heap.size, 0, none⟩)) rfl (.agg (hC h)) (Agg.run_loadAt_sub (off := 0) hb5d (fun j v hj => by simpa using hj) Tryz.underlying25 rfl (hC_info _ HLn.out)) ?_
          have h33 : (33 : Int) ≤ s.length := by omega
          repeat still_step
          refine wpStill_nil ?_
          rw [ext_from]
          go_wp2_with (first | (with_reducible refine Agg.wpList_build rfl 27 _ rfl (.agg (pC h (s.drop 33))) #[(0, .agg (hC h)), (1, .string ⟨(s.drop 33).toArray⟩)] (by kernel_rfl) (build_path _ _ HLn.out _) ?_) | (with_reducible refine Agg.wpList_set_row rfl rfl 27 _ _ rfl w.heap.size (pC h (s.drop 33)) rfl rfl 27 _ hb4d (pC_info _ _ HLn.out) hsz3.out (pC_one _ _) ?_))
          exact Agg.post_row_tmp rfl rfl rfl (setRow_heap _ _ _ _ _ _ hb4d) pC_under rfl (pC_info _ _ HLn.out) rfl ⟨by rw [HP.out.1, HP.out.2.1, HP.out.2.2]; rfl, Agg.below_setRow hwd (Nat.le_refl _)⟩

  · have hp : parseH s = z20 ∧ parseN s = [] ∧ parseE s = 4 := by
      have : parse s = none := by rw [HR.out]; simp [h34]
      simp [parseH, parseN, parseE, this]
    have HP := Lib.hid hp
    clear hp
    have hd : decide ((s.length : Int) < 34) = true := by simp; omega
    go_enter Tryz.func92, Tryz.ntmps92
    go_wp2_with (first | (with_reducible refine Agg.wpList_alloc_row rfl 27 rfl (pC z20 []) pC_zero ?_) | (with_reducible refine Agg.wpList_build_zero rfl 27 rfl (.agg (pC z20 [])) build_zeroPath ?_) | (with_reducible refine Agg.wpList_set_row rfl rfl 27 _ _ rfl w.heap.size (pC z20 []) rfl rfl 27 _ hb (pC_info _ _ z20_length) rfl (pC_one _ _) ?_))
    exact Agg.post_row_tmp rfl rfl rfl (setRow_heap _ _ _ _ _ _ hb) pC_under rfl (pC_info _ _ z20_length) rfl ⟨by rw [HP.out.1, HP.out.2.1, HP.out.2.2]; rfl, Agg.below_setRow ((Below.refl _ _).alloc (Nat.le_refl _) _) (Nat.le_refl _)⟩
end Go.Proofs.YtpnolgliklmnmaaGreat
