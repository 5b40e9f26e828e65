/- spenceref28.GetReply of any bytes. -/
import Derived.Test.YtpnolgliklmnmaaGreatQAP
import Derived.Test.YtpnolgliklmnmaaGreatQAS
import Derived.Test.YtpnolgliklmnmaaGreatQAL
namespace Go.Proofs.YtpnolgliklmnmaaGreat
open Go.RowKit Pl Go.Agg
theorem own20_keepT {B g : Nat} {w w' : World} {v : Value} {l : List P20} {t : TypeId} {cs : Array Value} (h : Own E20 B w v l) (ho : Only (· = g) w w') (hb : Blk w g t cs) (ht : t ≠ 27) : Own E20 B w' v l := by
  refine h.keepT fun k cur fr hk => (ho.block k (Agg.heap_lt hk) fun e => ht ?_).trans hk
  subst e
  unfold Blk at hb
  rw [hb] at hk
  injection hk with hk
  injection hk with _ hk
theorem CrS.blkE {base g : Nat} {w : World} {s : Option (List UInt8)} (h : CrS base g w s) : ∃ cs, Blk w g 97 cs := by
  obtain ⟨v, r, e, h, _⟩ := h
  exact ⟨_, h.blk⟩
theorem own20_cur {B base g : Nat} {w w' : World} {v : Value} {l : List P20} {s : Option (List UInt8)} (h : Own E20 B w v l) (ho : Only (· = g) w w') (hc : CrS base g w s) : Own E20 B w' v l := by
  obtain ⟨cs, hb⟩ := hc.blkE
  exact own20_keepT h ho hb (by decide)
theorem GeR.pushed {t : TypeId} {w0 w w' : World} {base g0 gr gc : Nat} {s : Option (List UInt8)} {z cells : Array Value} {v : Value} (h : GeR t w0 base g0 gr gc w s z cells) (hp : Pushed E20 w0.heap.size w w' v) (ht : t ≠ 27) : GeR t w0 base g0 gr gc w' s z cells := by
  have hblk := h.blk
  have hzero := h.zero
  unfold Blk at hblk hzero
  obtain ⟨u, r, e, hu, h1, h2⟩ := h.cur
  have hcu := hu.blk
  unfold Blk at hcu
  exact ⟨⟨u, r, e, ⟨hp.blk gc _ _ _ (by decide) hcu, restKeepT hu.rest fun k cur fr hk => hp.blk k _ _ _ (by decide) hk⟩, h1, h2⟩, hp.blk g0 _ _ _ ht hzero, hp.blk gr _ _ _ ht hblk, h.below.trans (hp.below w0.heap.size (Nat.le_refl _) h.below.size), h.nc, h.zc, h.zr, h.g0_ge, h.gr_ge, h.gc_ge⟩
theorem GeR.own20 {t : TypeId} {w0 w : World} {base g0 gr gc : Nat} {s : Option (List UInt8)} {z cells : Array Value} (_h : GeR t w0 base g0 gr gc w s z cells) : Own E20 w0.heap.size w (.slice none 0 0) [] := Own.nil _ _ _
theorem rp_build1 (k : Int) (W : World) : (Instr.build 46 #[(0, .int .i64 k)]).run Tryz.prog W = .ok (.agg (rpG k z20 [] z20 0 (.slice none 0 0) 0)) W := by kernel_rfl
theorem rpB_copy {e g m : Int} {pv : Value} {ph pn : List UInt8} {w : World} {b : Nat} (h : Blk w b 46 (rpG e ph pn z20 g pv m)) (hl : ph.length = 20) {x : Value} {l : List UInt8} (ty : TypeId) (hx : SliceOf EB w x l) (hle : l.length ≤ 20) :
    ∃ w', (Builtin.copy_ #[23, 23] ty #[.slice (some ⟨b, 22, none⟩) 20 20, x]).run Tryz.prog w = .ok (goInt l.length) w' ∧ Blk w' b 46 (rpG e ph pn (l ++ z20.drop l.length) g pv m) ∧ Only (· = b) w w' := by
  have e1 : ∀ x, rpG e ph pn x g pv m = (#[.int .i64 e] ++ pC ph pn) ++ (hC x ++ #[.int .i64 g, pv, .int .i64 m]) := fun x => by simp only [rpG, Array.append_assoc]
  rw [e1] at h
  obtain ⟨w', h1, h2, h3⟩ := run_copyM (c0 := 20) _ _ _ ty hx h (i := 22) (by simp [pC_size, hl]) (n := 20) (by rw [hC_size]; rfl) hle
  refine ⟨w', h1, ?_, h3⟩
  rw [e1]
  have e2 : (Lib.byteCells l ++ (hC z20).toList.drop l.length).toArray = hC (l ++ z20.drop l.length) := by simp [Lib.byteCells, hC]
  rw [e2] at h2
  exact h2
theorem getRp_partsD {b : List UInt8} {e g m n : Nat} {s1 s2 s3 s4 s5 s6 s7 : Option (List UInt8)} {t ch : List UInt8} {ts : List (List UInt8)} (h1 : sNum 63 (some b) = (e, s1)) (h2 : sNum 1099511627776 s1 = (g, s2)) (h3 : sNum 1099511627776 s2 = (m, s3)) (h4 : sText 57 s3 = (t, s4)) (h5 : sHash s4 = (ch, s5)) (h6 : sNum 2000 s5 = (n, s6)) (h7 : sTexts n s6 = (ts, s7)) :
    getRp b = if Rp.right ⟨e, parseH t, parseN t, ch, g, ts.map textP, m⟩ = true ∧ s7 = some [] ∧ putRp ⟨e, parseH t, parseN t, ch, g, ts.map textP, m⟩ = b then some ⟨e, parseH t, parseN t, ch, g, ts.map textP, m⟩ else none := by
  have e1 : rE (some b) = (e, s1) := h1
  have e2 : rG (some b) = (g, s2) := by unfold rG; rw [e1]; exact h2
  have e3 : rM (some b) = (m, s3) := by unfold rM; rw [e2]; exact h3
  have e4 : rX (some b) = (t, s4) := by unfold rX; rw [e3]; exact h4
  have e5 : rH (some b) = (ch, s5) := by unfold rH; rw [e4]; exact h5
  have e6 : rC (some b) = (n, s6) := by unfold rC; rw [e5]; exact h6
  have e7 : rL (some b) = (ts, s7) := by unfold rL; rw [e6]; exact h7
  have er : rRp (some b) = ⟨e, parseH t, parseN t, ch, g, ts.map textP, m⟩ := by unfold rRp; rw [e1, e2, e3, e4, e5, e7]
  rw [← getRpD_eq b]
  unfold getRpD
  rw [e7, er]
theorem textP_le {ts : List (List UInt8)} : ∀ x ∈ ts.map textP, x.1.2.length ≤ 1048576 := fun x hx => by
  obtain ⟨t, _, rfl⟩ := List.mem_map.1 hx
  exact Nat.le_trans (parseN_le t) (by omega)
set_option maxRecDepth 100000 in
set_option maxHeartbeats 4000000 in
theorem refGetR_any (v : Value) (b : List UInt8) (w : World) (hl : b.length ≤ 16777216) (hb : BytesAt w v b) :
    Calls Tryz.prog 25 #[v] w fun x w' => ∃ pv, x = .returned (.tuple #[.agg (rpG (rpOut b).e (rpOut b).ph (rpOut b).pn (rpOut b).ch (rpOut b).g pv (rpOut b).m), .int .i64 (rpErr b : Int)]) ∧ Own E20 w.heap.size w' pv (rpOut b).l ∧ Below w.heap.size w w' := by
  obtain ⟨e, s1, q1⟩ : ∃ k s, sNum 63 (some b) = (k, s) := ⟨_, _, rfl⟩
  obtain ⟨g, s2, q2⟩ : ∃ k s, sNum 1099511627776 s1 = (k, s) := ⟨_, _, rfl⟩
  obtain ⟨m, s3, q3⟩ : ∃ k s, sNum 1099511627776 s2 = (k, s) := ⟨_, _, rfl⟩
  obtain ⟨t, s4, q4⟩ : ∃ k s, sText 57 s3 = (k, s) := ⟨_, _, rfl⟩
  obtain ⟨ch, s5, q5⟩ : ∃ k s, sHash s4 = (k, s) := ⟨_, _, rfl⟩
  obtain ⟨n, s6, q6⟩ : ∃ k s, sNum 2000 s5 = (k, s) := ⟨_, _, rfl⟩
  have h0 : stLen (some b) ≤ 16777216 := hl
  have h1 : stLen s1 ≤ 16777216 := by have := sNum_len 63 (some b); rw [q1] at this; exact Nat.le_trans this h0
  have h2 : stLen s2 ≤ 16777216 := by have := sNum_len 1099511627776 s1; rw [q2] at this; exact Nat.le_trans this h1
  have h3 : stLen s3 ≤ 16777216 := by have := sNum_len 1099511627776 s2; rw [q3] at this; exact Nat.le_trans this h2
  have h4 : stLen s4 ≤ 16777216 := by have := sText_len 57 s3; rw [q4] at this; exact Nat.le_trans this h3
  have h5 : stLen s5 ≤ 16777216 := by have := sHash_len s4; rw [q5] at this; exact Nat.le_trans this h4
  have h6 : stLen s6 ≤ 16777216 := by have := sNum_len 2000 s5; rw [q6] at this; exact Nat.le_trans this h5
  have hn : n ≤ 2000 := by have := sNum_le 2000 s5; rw [q6] at this; exact this
  have h63 : ([] : List UInt8).length + b.length ≤ 1099511627776 / 8 := by simp; omega
  have HCL := Lib.hid (show ch.length = 20 by have := sHash_length s4; rw [q5] at this; exact this)
  have HPL := Lib.hid (parseH_length t)
  have HQ1 := Lib.hid q1
  have HQ2 := Lib.hid q2
  have HQ3 := Lib.hid q3
  have HQ4 := Lib.hid q4
  have HQ5 := Lib.hid q5
  have HQ6 := Lib.hid q6
  have HBY := Lib.hid hb
  clear q1 q2 q3 q4 q5 q6 hb
  go_enter Tryz.func25, Tryz.ntmps25
  go_wp2_with (first | (with_reducible refine Agg.wpList_zero rfl 46 rfl (rpG 0 z20 [] z20 0 (.slice none 0 0) 0) rp_zero ?_; intro g0 w1 hb1 hx1 hg0; have hlt1 := hb1.lt; have HB1 := Lib.hid hb1; have HX1 := Lib.hid hx1; clear hb1 hx1) | (refine Agg.wpList_slice0 (base := w1.heap.size) EB rfl rfl (Nat.le_refl _) ?_; intro v0 w2 ho0 hx0 _; have HO0 := Lib.hid ho0; have HX0 := Lib.hid hx0; have HY0 := Lib.hid (SliceOf.below (SliceOf.below HBY.out HX1.out) hx0); have HB2 := Lib.hid (HB1.out.below hx0); have hsz0 := hx0.size; clear ho0 hx0) | (refine Agg.wpList_appendO (E := EB) (base := w1.heap.size) rfl _ _ rfl v rfl rfl b HO0.out HY0.out h63 (by decide) hsz0 ?_; intro v1 w3 ho1 hp1 _; have HR1 := Lib.hid (show Rest w1.heap.size w3 v1 b from by simpa using Rest.of_own ho1); have hvf : ∃ p n c, v1 = .slice p n c := (by obtain ⟨p, c, hf⟩ := ho1.slice.form; exact ⟨p, _, c, hf⟩); have HX3 := Lib.hid (Agg.belowThen HX1.out (Nat.le_refl _) (HX0.out.trans (hp1.below w1.heap.size (Nat.le_refl _) hsz0))); have HB3 : Hid (Blk w3 g0 46 (rpG 0 z20 [] z20 0 (.slice none 0 0) 0)) := Lib.hid (hp1.blk g0 _ _ _ (by decide) HB2.out); have hsz3 : w1.heap.size ≤ w3.heap.size := Nat.le_trans hsz0 hp1.size; clear ho1 hp1) | (with_reducible refine Agg.wpList_build1 97 0 _ rfl rfl v1 rfl (.agg (cuC v1 0)) (cr_build hvf) ?_) | (with_reducible refine Agg.wpList_box rfl 97 _ rfl (cuC v1 0) rfl ?_; intro gc w4 hb4 hx4 hgc; have hlt4 := hb4.lt; have HC4 := Lib.hid (CrS.good ⟨hb4, HR1.out.below hx4⟩); have HB4 := Lib.hid (HB3.out.below hx4); have HX4 := Lib.hid (Agg.belowThen HX3.out (Nat.le_refl _) hx4); clear hb4 hx4))
  have hnum := rcnum_any w1.heap.size gc 63 (some b) _ h0 (by omega) HC4.out
  rw [HQ1.out] at hnum
  dsimp only at hnum
  refine hnum.mono ?_
  rintro x w5 ⟨rfl, hc, ho⟩
  clear hnum h63 hvf
  have hsz1 := HX1.out.size
  have hsz4 := HX4.out.size
  have hgcw : w.heap.size ≤ gc := by omega
  have hz0 : g0 ≠ gc := by omega
  have HC5 := Lib.hid hc
  have HB5 := Lib.hid (HB4.out.only ho hz0)
  have HX5 := Lib.hid (HX4.out.trans (ho.below hsz4 fun _ e => e ▸ hgcw))
  have hlt5 : gc < w5.heap.size := hc.lt
  have hlt05 := HB5.out.lt
  clear hc ho
  go_wp2_with (first | (with_reducible refine Agg.wpList_build1 46 0 _ rfl rfl (.int .i64 (e : Int)) rfl (.agg (rpG e z20 [] z20 0 (.slice none 0 0) 0)) (rp_build1 e) ?_) | (refine Agg.wpList_new rfl rfl rfl 46 5 18 rfl rfl rfl (by decide) (rpG 0 z20 [] z20 0 (.slice none 0 0) 0) (rpG e z20 [] z20 0 (.slice none 0 0) 0) rp_zero (by rw [rpG_size z20_length z20_length, rpG_size z20_length z20_length]) (rp_info z20_length z20_length) (rp_one (l := []) (SliceOf.nil w none 0) _ _ _ _ _ _) rfl (by first | (simp; done) | simp [Act.put]) ?_; intro gr w6 hb6 hx6 hg6; have HS6 := Lib.hid (⟨HC5.out.below hx6, HB5.out.below hx6, hb6, Agg.belowThen HX5.out (Nat.le_refl _) hx6, by omega, by omega, by omega, by omega, by have := HX5.out.size; omega, by omega⟩ : GeR 46 w w1.heap.size g0 gr gc w6 s1 (rpG 0 z20 [] z20 0 (.slice none 0 0) 0) (rpG e z20 [] z20 0 (.slice none 0 0) 0)); clear hb6 hx6))
  have hnum := rcnum_40 w1.heap.size gc s1 _ h1 HS6.out.cur
  rw [HQ2.out] at hnum
  dsimp only at hnum
  refine hnum.mono ?_
  rintro x w7 ⟨rfl, hc, ho⟩
  clear hnum
  have HS7 := Lib.hid (HS6.out.step ho hc)
  clear hc ho
  go_wp2_with (first | (obtain ⟨w8, hrun, hb, ho⟩ := rpB_goal HS7.out.blk z20_length z20_length (g : Int); refine Agg.wpList_store rfl rfl 3 _ _ rfl (.pointer (some ⟨gr, 42, none⟩)) _ rfl rfl hrun ?_; have HS8 := Lib.hid (HS7.out.store hb ho (by decide) (by decide)); clear hb ho hrun))
  have hnum := rcnum_40 w1.heap.size gc s2 _ h2 HS8.out.cur
  rw [HQ3.out] at hnum
  dsimp only at hnum
  refine hnum.mono ?_
  rintro x w9 ⟨rfl, hc, ho⟩
  clear hnum
  have HS9 := Lib.hid (HS8.out.step ho hc)
  clear hc ho
  go_wp2_with (first | (obtain ⟨w10, hrun, hb, ho⟩ := rpB_many HS9.out.blk z20_length z20_length (m : Int); refine Agg.wpList_store rfl rfl 3 _ _ rfl (.pointer (some ⟨gr, 44, none⟩)) _ rfl rfl hrun ?_; have HS10 := Lib.hid (HS9.out.store hb ho (by decide) (by decide)); clear hb ho hrun))
  have hnum := refGetPath_any w1.heap.size gc s3 _ h3 HS10.out.cur
  rw [HQ4.out] at hnum
  dsimp only at hnum
  refine hnum.mono ?_
  rintro x w11 ⟨rfl, hc, ho⟩
  clear hnum
  have HS11 := Lib.hid (HS10.out.step ho hc)
  clear hc ho
  go_wp2_with (first | (obtain ⟨w12, hrun, hb, ho⟩ := rpB_path HS11.out.blk z20_length (parseH t) (parseN t) HPL.out; refine Agg.wpList_store rfl rfl 27 _ _ rfl (.pointer (some ⟨gr, 1, none⟩)) _ rfl rfl hrun ?_; have HS12 := Lib.hid (HS11.out.store hb ho (by decide) (by decide)); clear hb ho hrun))
  refine (rcraw_any w1.heap.size gc 20 s4 _ h4 (by omega) HS12.out.cur).mono ?_
  rintro x w13 ⟨ur, rfl, hu, hc, ho⟩
  have hraw : (sRaw 20 s4).1.length ≤ 20 := sRaw_le 20 s4
  have HU6 := Lib.hid hu.slice
  have HS13 := Lib.hid (HS12.out.step ho (show CrS w1.heap.size gc w13 (sHash s4).2 from hc))
  have hsl : ∀ W, (Instr.sliceAt 25 (.pointer (some ⟨gr, 22, none⟩)) none none none).run Tryz.prog W = .ok (.slice (some ⟨gr, 22, none⟩) 20 20) W := fun W => by kernel_rfl
  obtain ⟨w14, hrun6, hb, ho6⟩ := rpB_copy HS13.out.blk HPL.out 3 HU6.out hraw
  have HS14 := Lib.hid (HS13.out.store (show Blk w14 gr 46 (rpG e (parseH t) (parseN t) (sHash s4).1 g (.slice none 0 0) m) from hb) ho6 (by decide) (by decide))
  rw [HQ5.out] at HS14
  clear hu hc ho hb ho6 hraw
  go_wp2_with (first | (refine wpList_copyR rfl _ _ rfl (.slice (some ⟨gr, 22, none⟩) 20 20) ur _ rfl rfl hrun6 ?_))
  clear hrun6 hsl
  have hnum := rcnum_any w1.heap.size gc 2000 s5 _ h5 (by omega) HS14.out.cur
  rw [HQ6.out] at hnum
  dsimp only at hnum
  refine hnum.mono ?_
  rintro x w15 ⟨rfl, hc, ho⟩
  clear hnum
  have HS15 := Lib.hid (HS14.out.step ho hc)
  clear hc ho
  go_wp2_with fail
  go_loopw [8] (fun i wr => ∃ k : Nat, ∃ pv : Value, k ≤ n ∧ i = .int .i64 k ∧ GeR 46 w w1.heap.size g0 gr gc wr (sTexts k s6).2 (rpG 0 z20 [] z20 0 (.slice none 0 0) 0) (rpG e (parseH t) (parseN t) ch g pv m) ∧ Own E20 w.heap.size wr pv ((sTexts k s6).1.map textP)) (fun i _ => n - (intOf i).toNat)
  case atStart => exact ⟨0, .slice none 0 0, by omega, rfl, by simpa [sTexts] using HS15.out, by simpa [sTexts] using HS15.out.own20⟩
  case round =>
    clear HS15
    obtain ⟨wr1, rfl⟩ : ∃ x : World, x = wr := ⟨_, rfl⟩
    obtain ⟨k, pv, hk, rfl, hs, ho⟩ := hrel
    obtain ⟨ts, s', hts⟩ : ∃ a c, sTexts k s6 = (a, c) := ⟨_, _, rfl⟩
    have hsn := sTexts_snoc k s6
    have hln := sTexts_len k s6
    rw [hts] at hs ho hsn hln
    have hlt1 : ts.length = k := hln.1
    have hls : stLen s' ≤ 16777216 := Nat.le_trans hln.2 h6
    have HS := Lib.hid hs
    have HO := Lib.hid ho
    have HTS := Lib.hid hts
    have HSN := Lib.hid hsn
    clear hs ho hts hsn hln
    by_cases hlt : k < n
    · obtain ⟨t', s'', hk'⟩ : ∃ a c, sText 57 s' = (a, c) := ⟨_, _, rfl⟩
      have HSN' := Lib.hid (show sTexts (k + 1) s6 = (ts ++ [t'], s'') by rw [HSN.out, hk'])
      have HQ := Lib.hid hk'
      have h63 : (ts.map textP).length + [textP t'].length ≤ 1099511627776 / 8 := by rw [List.length_map, hlt1]; simp; omega
      have HEN := Lib.hid (enters_of Tryz.func61 (by kernel_rfl) rfl : ∀ args w, (callFunc 61 args).run Tryz.prog w = .ok (.enter 61 args) w)
      have HSD := Lib.hid (HS.out.later ((Below.refl _ _).drew))
      have HOD1 := Lib.hid (HO.out.below ((Below.refl _ _).drew))
      have HLDa := Lib.hid (RpG.of_blk HSD.out.blk HPL.out HCL.out).paths.now
      clear hk'
      go_wp2_with fail
      refine wp_region_any (by kernel_rfl) ?_
      refine Agg.any_take 0 (.pointer (some ⟨gr, 43, none⟩)) rfl (by kernel_rfl) (fun _ _ _ h => h) rfl (fun W => by kernel_rfl) ?_
      try simp only [Act.put, List.setIfInBounds_toArray, List.set_cons_succ, List.set_cons_zero]
      refine Agg.any_take 2 (.pointer (some ⟨gc, 0, none⟩)) rfl (by kernel_rfl) (fun _ _ _ h => h) rfl (fun W => by kernel_rfl) ?_
      try simp only [Act.put, List.setIfInBounds_toArray, List.set_cons_succ, List.set_cons_zero]
      refine Agg.any_ready [1, 3] (by kernel_rfl) (by simp) ?_
      refine Agg.any_cons rfl ?_ ?_
      · refine Agg.step_load rfl 44 _ rfl _ pv rfl HLDa.out ?_
        try simp only [Act.put, List.setIfInBounds_toArray, List.set_cons_succ, List.set_cons_zero]
        refine Agg.any_ready [3] (by kernel_rfl) (by simp) ?_
        refine Agg.any_cons rfl ?_ ?_
        · refine Agg.step_call rfl 61 _ _ rfl #[.pointer (some ⟨gc, 0, none⟩)] (by simp only [List.map_toArray, List.map_cons, List.map_nil]; rfl) (fun W => HEN.out _ W) ?_
          have hnum := refGetPath_any w1.heap.size gc s' _ hls HSD.out.cur
          rw [HQ.out] at hnum
          dsimp only at hnum
          refine hnum.mono ?_
          rintro x w2 ⟨rfl, hg, ho⟩
          clear hnum
          have HS2 := Lib.hid (HSD.out.step ho hg)
          have HO2 := Lib.hid (own20_cur HOD1.out ho HSD.out.cur)
          have HLDb := Lib.hid (RpG.of_blk HS2.out.blk HPL.out HCL.out).paths.now
          refine ⟨_, rfl, ?_⟩
          try simp only [Act.put, List.setIfInBounds_toArray, List.set_cons_succ, List.set_cons_zero]
          refine Agg.any_ready [4] (by kernel_rfl) (by simp) ?_
          refine Agg.any_cons rfl ?_ ?_
          · refine Agg.step_slice1 (E := E20) rfl _ rfl (textP t') rfl ?_
            intro x3 w3 hx3 hb3
            have HS3 := Lib.hid (HS2.out.later hb3)
            have HO3 := Lib.hid (HO2.out.below hb3)
            have HX3 := Lib.hid hx3.slice
            have HLDc := Lib.hid (RpG.of_blk HS3.out.blk HPL.out HCL.out).paths.now
            try simp only [Act.put, List.setIfInBounds_toArray, List.set_cons_succ, List.set_cons_zero]
            refine Agg.any_ready [5] (by kernel_rfl) (by simp) ?_
            refine Agg.any_cons rfl ?_ ?_
            · refine Agg.step_appendS (E := E20) (base := w.heap.size) rfl _ _ rfl x3 rfl rfl [textP t'] HO3.out HX3.out h63 (by decide) HS3.out.below.size ?_
              intro v4 w4 ho4 hp4
              have HS4 := Lib.hid (HS3.out.pushed hp4 (by decide))
              have HO4 := Lib.hid ho4
              try simp only [Act.put, List.setIfInBounds_toArray, List.set_cons_succ, List.set_cons_zero]
              refine Agg.any_take 6 (.pointer (some ⟨gr, 43, none⟩)) rfl (by kernel_rfl) (fun _ _ _ h => h) rfl (fun W => by kernel_rfl) ?_
              try simp only [Act.put, List.setIfInBounds_toArray, List.set_cons_succ, List.set_cons_zero]
              refine Agg.any_ready [7] (by kernel_rfl) (by simp) ?_
              refine Agg.any_cons rfl ?_ ?_
              · obtain ⟨w5, hrun, hb5, ho5⟩ := rpB_paths HS4.out.blk HPL.out HCL.out v4 (elems_cell HO4.out.slice).1 (elems_cell HO4.out.slice).2
                refine Agg.step_store rfl rfl 44 _ _ rfl (.pointer (some ⟨gr, 43, none⟩)) _ rfl rfl hrun ?_
                have HS5 := Lib.hid (HS4.out.store hb5 ho5 (by decide) (by decide))
                have HO5 := Lib.hid (own20_keepT HO4.out ho5 HS4.out.blk (by decide))
                clear hrun hb5 ho5
                try simp only [Act.put, List.setIfInBounds_toArray, List.set_cons_succ, List.set_cons_zero]
                refine Agg.any_end (by kernel_rfl) ?_
                go_wp2_with fail
                go_roundw
                case rel => exact ⟨k + 1, v4, by omega, by go_num, by rw [HSN'.out]; exact HS5.out, by rw [HSN'.out]; simpa using HO5.out⟩
                case measure => simp [intOf]; omega
              exact AllReady.nil
            exact AllReady.nil
          exact AllReady.nil
        exact AllReady.nil
      refine Agg.any_cons rfl ?_ ?_
      · refine Agg.step_call rfl 61 _ _ rfl #[.pointer (some ⟨gc, 0, none⟩)] (by simp only [List.map_toArray, List.map_cons, List.map_nil]; rfl) (fun W => HEN.out _ W) ?_
        have hnum := refGetPath_any w1.heap.size gc s' _ hls HSD.out.cur
        rw [HQ.out] at hnum
        dsimp only at hnum
        refine hnum.mono ?_
        rintro x w2 ⟨rfl, hg, ho⟩
        clear hnum
        have HS2 := Lib.hid (HSD.out.step ho hg)
        have HO2 := Lib.hid (own20_cur HOD1.out ho HSD.out.cur)
        have HLDb := Lib.hid (RpG.of_blk HS2.out.blk HPL.out HCL.out).paths.now
        refine ⟨_, rfl, ?_⟩
        try simp only [Act.put, List.setIfInBounds_toArray, List.set_cons_succ, List.set_cons_zero]
        refine Agg.any_ready [1, 4] (by kernel_rfl) (by simp) ?_
        refine Agg.any_cons rfl ?_ ?_
        · refine Agg.step_load rfl 44 _ rfl _ pv rfl HLDb.out ?_
          try simp only [Act.put, List.setIfInBounds_toArray, List.set_cons_succ, List.set_cons_zero]
          refine Agg.any_ready [4] (by kernel_rfl) (by simp) ?_
          refine Agg.any_cons rfl ?_ ?_
          · refine Agg.step_slice1 (E := E20) rfl _ rfl (textP t') rfl ?_
            intro x3 w3 hx3 hb3
            have HS3 := Lib.hid (HS2.out.later hb3)
            have HO3 := Lib.hid (HO2.out.below hb3)
            have HX3 := Lib.hid hx3.slice
            have HLDc := Lib.hid (RpG.of_blk HS3.out.blk HPL.out HCL.out).paths.now
            try simp only [Act.put, List.setIfInBounds_toArray, List.set_cons_succ, List.set_cons_zero]
            refine Agg.any_ready [5] (by kernel_rfl) (by simp) ?_
            refine Agg.any_cons rfl ?_ ?_
            · refine Agg.step_appendS (E := E20) (base := w.heap.size) rfl _ _ rfl x3 rfl rfl [textP t'] HO3.out HX3.out h63 (by decide) HS3.out.below.size ?_
              intro v4 w4 ho4 hp4
              have HS4 := Lib.hid (HS3.out.pushed hp4 (by decide))
              have HO4 := Lib.hid ho4
              try simp only [Act.put, List.setIfInBounds_toArray, List.set_cons_succ, List.set_cons_zero]
              refine Agg.any_take 6 (.pointer (some ⟨gr, 43, none⟩)) rfl (by kernel_rfl) (fun _ _ _ h => h) rfl (fun W => by kernel_rfl) ?_
              try simp only [Act.put, List.setIfInBounds_toArray, List.set_cons_succ, List.set_cons_zero]
              refine Agg.any_ready [7] (by kernel_rfl) (by simp) ?_
              refine Agg.any_cons rfl ?_ ?_
              · obtain ⟨w5, hrun, hb5, ho5⟩ := rpB_paths HS4.out.blk HPL.out HCL.out v4 (elems_cell HO4.out.slice).1 (elems_cell HO4.out.slice).2
                refine Agg.step_store rfl rfl 44 _ _ rfl (.pointer (some ⟨gr, 43, none⟩)) _ rfl rfl hrun ?_
                have HS5 := Lib.hid (HS4.out.store hb5 ho5 (by decide) (by decide))
                have HO5 := Lib.hid (own20_keepT HO4.out ho5 HS4.out.blk (by decide))
                clear hrun hb5 ho5
                try simp only [Act.put, List.setIfInBounds_toArray, List.set_cons_succ, List.set_cons_zero]
                refine Agg.any_end (by kernel_rfl) ?_
                go_wp2_with fail
                go_roundw
                case rel => exact ⟨k + 1, v4, by omega, by go_num, by rw [HSN'.out]; exact HS5.out, by rw [HSN'.out]; simpa using HO5.out⟩
                case measure => simp [intOf]; omega
              exact AllReady.nil
            exact AllReady.nil
          exact AllReady.nil
        refine Agg.any_cons rfl ?_ ?_
        · refine Agg.step_slice1 (E := E20) rfl _ rfl (textP t') rfl ?_
          intro x3 w3 hx3 hb3
          have HS3 := Lib.hid (HS2.out.later hb3)
          have HO3 := Lib.hid (HO2.out.below hb3)
          have HX3 := Lib.hid hx3.slice
          have HLDc := Lib.hid (RpG.of_blk HS3.out.blk HPL.out HCL.out).paths.now
          try simp only [Act.put, List.setIfInBounds_toArray, List.set_cons_succ, List.set_cons_zero]
          refine Agg.any_ready [1] (by kernel_rfl) (by simp) ?_
          refine Agg.any_cons rfl ?_ ?_
          · refine Agg.step_load rfl 44 _ rfl _ pv rfl HLDc.out ?_
            try simp only [Act.put, List.setIfInBounds_toArray, List.set_cons_succ, List.set_cons_zero]
            refine Agg.any_ready [5] (by kernel_rfl) (by simp) ?_
            refine Agg.any_cons rfl ?_ ?_
            · refine Agg.step_appendS (E := E20) (base := w.heap.size) rfl _ _ rfl x3 rfl rfl [textP t'] HO3.out HX3.out h63 (by decide) HS3.out.below.size ?_
              intro v4 w4 ho4 hp4
              have HS4 := Lib.hid (HS3.out.pushed hp4 (by decide))
              have HO4 := Lib.hid ho4
              try simp only [Act.put, List.setIfInBounds_toArray, List.set_cons_succ, List.set_cons_zero]
              refine Agg.any_take 6 (.pointer (some ⟨gr, 43, none⟩)) rfl (by kernel_rfl) (fun _ _ _ h => h) rfl (fun W => by kernel_rfl) ?_
              try simp only [Act.put, List.setIfInBounds_toArray, List.set_cons_succ, List.set_cons_zero]
              refine Agg.any_ready [7] (by kernel_rfl) (by simp) ?_
              refine Agg.any_cons rfl ?_ ?_
              · obtain ⟨w5, hrun, hb5, ho5⟩ := rpB_paths HS4.out.blk HPL.out HCL.out v4 (elems_cell HO4.out.slice).1 (elems_cell HO4.out.slice).2
                refine Agg.step_store rfl rfl 44 _ _ rfl (.pointer (some ⟨gr, 43, none⟩)) _ rfl rfl hrun ?_
                have HS5 := Lib.hid (HS4.out.store hb5 ho5 (by decide) (by decide))
                have HO5 := Lib.hid (own20_keepT HO4.out ho5 HS4.out.blk (by decide))
                clear hrun hb5 ho5
                try simp only [Act.put, List.setIfInBounds_toArray, List.set_cons_succ, List.set_cons_zero]
                refine Agg.any_end (by kernel_rfl) ?_
                go_wp2_with fail
                go_roundw
                case rel => exact ⟨k + 1, v4, by omega, by go_num, by rw [HSN'.out]; exact HS5.out, by rw [HSN'.out]; simpa using HO5.out⟩
                case measure => simp [intOf]; omega
              exact AllReady.nil
            exact AllReady.nil
          exact AllReady.nil
        exact AllReady.nil
      exact AllReady.nil
    · obtain rfl : k = n := by omega
      clear hlt
      go_wp2_with (first | (with_reducible refine Agg.wpList_loadL (RpG.of_blk HS.out.blk HPL.out HCL.out).all rfl _ rfl rfl ?_))
      have HG := Lib.hid (getRp_partsD HQ1.out HQ2.out HQ3.out HQ4.out HQ5.out HQ6.out HTS.out)
      have hnl : (ts.map textP).length ≤ 1048576 := by rw [List.length_map, hlt1]; omega
      refine (refPutR_any e g m (parseH t) (parseN t) ch pv (ts.map textP) HPL.out HCL.out (Nat.le_trans (parseN_le _) (by omega)) hnl textP_le _ HO.out.slice).mono ?_
      rintro x w91 ⟨va, rfl, hva, hx91⟩
      have HS91 := Lib.hid (HS.out.later hx91)
      have HO91 := Lib.hid (HO.out.below hx91)
      obtain ⟨cd, hcd⟩ : ∃ x, rpCode ⟨(e : Int), parseH t, parseN t, ch, (g : Int), ts.map textP, (m : Int)⟩ = x := ⟨_, rfl⟩
      obtain ⟨ab, hab⟩ : ∃ x, rpBytes ⟨(e : Int), parseH t, parseN t, ch, (g : Int), ts.map textP, (m : Int)⟩ = x := ⟨_, rfl⟩
      rw [hcd] at ⊢
      rw [hab] at hva
      have HVA := Lib.hid hva.slice
      have HBA := Lib.hid (HBY.out.below HS91.out.below)
      clear hva hx91
      cases hr : Rp.right ⟨(e : Int), parseH t, parseN t, ch, (g : Int), ts.map textP, (m : Int)⟩ with
      | false =>
        obtain rfl : 2 = cd := by rw [← hcd]; simp [rpCode, hr]
        have HN := Lib.hid (show getRp b = none from by
          rw [HG.out, if_neg]
          rintro ⟨h3, _⟩
          have h3 : Rp.right ⟨(e : Int), parseH t, parseN t, ch, (g : Int), ts.map textP, (m : Int)⟩ = true := h3
          rw [hr] at h3
          exact absurd h3 (by decide))
        clear hcd hab hr
        go_wp2_with (first | (with_reducible refine Agg.wpList_build0 46 rfl rfl (.agg (rpG 0 z20 [] z20 0 (.slice none 0 0) 0)) rp_build0 ?_) | (refine Agg.wpList_put rfl rfl 46 _ _ rfl g0 (rpG 0 z20 [] z20 0 (.slice none 0 0) 0) (rpG 0 z20 [] z20 0 (.slice none 0 0) 0) rfl rfl HS91.out.zero (rp_info z20_length z20_length) rfl (rp_one (l := []) (SliceOf.nil w none 0) _ _ _ _ _ _) ?_; intro w93 hb93 hx93 hs93 hk93))
        have hx := HS91.out.below.trans (hx93.mono HS91.out.g0_ge)
        refine Agg.post_row_tmp rfl rfl rfl hb93 rp_under rfl (rp_info z20_length z20_length) rfl ⟨.slice none 0 0, ?_, ?_, hx⟩
        · rw [(rpOut_none HN.out).1, (rpOut_none HN.out).2]; rfl
        · rw [(rpOut_none HN.out).1]; exact Own.nil _ _ _
      | true =>
        obtain rfl : 0 = cd := by rw [← hcd]; simp [rpCode, hr]
        obtain rfl : putRp ⟨(e : Int), parseH t, parseN t, ch, (g : Int), ts.map textP, (m : Int)⟩ = ab := by rw [← hab]; simp [rpBytes, hr]
        have HRT := Lib.hid hr
        clear hcd hab hr
        go_wp2_with fail
        refine (rsend_any w1.heap.size gc s' _ HS91.out.cur).mono ?_
        rintro x w92 ⟨⟨c, rfl, hc⟩, rfl⟩
        by_cases hc0 : c = 0
        · subst hc0
          have HE7 := Lib.hid (hc.1 rfl)
          clear hc
          obtain ⟨ab, hab⟩ : ∃ x, putRp ⟨(e : Int), parseH t, parseN t, ch, (g : Int), ts.map textP, (m : Int)⟩ = x := ⟨_, rfl⟩
          rw [hab] at HVA
          have hta := Agg.bytes_toList ab
          have htb := Agg.bytes_toList b
          cases hz : (ab == b) with
          | false =>
            have HN := Lib.hid (show getRp b = none from by
              rw [HG.out, if_neg]
              rintro ⟨_, _, h3⟩
              have h3 : putRp ⟨(e : Int), parseH t, parseN t, ch, (g : Int), ts.map textP, (m : Int)⟩ = b := h3
              rw [hab] at h3
              rw [h3] at hz
              simp at hz)
            clear hab
            have hz2 : (ab != b) = true := by rw [bne, hz]; rfl
            go_wp2_with (first | (with_reducible refine wpList_toStr HVA.out _ rfl (by kernel_rfl) rfl ?_) | (with_reducible refine wpList_toStr HBA.out _ rfl (by kernel_rfl) rfl ?_) | (with_reducible refine Agg.wpList_build0 46 rfl rfl (.agg (rpG 0 z20 [] z20 0 (.slice none 0 0) 0)) rp_build0 ?_) | (refine Agg.wpList_put rfl rfl 46 _ _ rfl g0 (rpG 0 z20 [] z20 0 (.slice none 0 0) 0) (rpG 0 z20 [] z20 0 (.slice none 0 0) 0) rfl rfl HS91.out.zero (rp_info z20_length z20_length) rfl (rp_one (l := []) (SliceOf.nil w none 0) _ _ _ _ _ _) ?_; intro w93 hb93 hx93 hs93 hk93))
            have hx := HS91.out.below.trans (hx93.mono HS91.out.g0_ge)
            refine Agg.post_row_tmp rfl rfl rfl hb93 rp_under rfl (rp_info z20_length z20_length) rfl ⟨.slice none 0 0, ?_, ?_, hx⟩
            · rw [(rpOut_none HN.out).1, (rpOut_none HN.out).2]; rfl
            · rw [(rpOut_none HN.out).1]; exact Own.nil _ _ _
          | true =>
            have hz1 : ab = b := by simpa using hz
            have HY := Lib.hid (show getRp b = some ⟨(e : Int), parseH t, parseN t, ch, (g : Int), ts.map textP, (m : Int)⟩ from HG.out.trans (if_pos ⟨HRT.out, HE7.out, hab.trans hz1⟩))
            clear hab
            have hz2 : (ab != b) = false := by rw [bne, hz]; rfl
            go_wp2_with (first | (with_reducible refine wpList_toStr HVA.out _ rfl (by kernel_rfl) rfl ?_) | (with_reducible refine wpList_toStr HBA.out _ rfl (by kernel_rfl) rfl ?_) | (with_reducible refine Agg.wpList_loadL (RpG.of_blk HS91.out.blk HPL.out HCL.out).all rfl _ rfl rfl ?_) | (refine Agg.wpList_put rfl rfl 46 _ _ rfl g0 (rpG e (parseH t) (parseN t) ch g pv m) (rpG 0 z20 [] z20 0 (.slice none 0 0) 0) rfl rfl HS91.out.zero (rp_info HPL.out HCL.out) (by rw [rpG_size HPL.out HCL.out, rpG_size z20_length z20_length]) (rp_one HO91.out.slice _ _ _ _ _ _) ?_; intro w93 hb93 hx93 hs93 hk93))
            have hx := HS91.out.below.trans (hx93.mono HS91.out.g0_ge)
            have ho93 : Only (· = g0) _ w93 := Only.of_eq hx93 hs93 hk93 rfl
            refine Agg.post_row_tmp rfl rfl rfl hb93 rp_under rfl (rp_info HPL.out HCL.out) rfl ⟨pv, ?_, ?_, hx⟩
            · rw [(rpOut_some HY.out).1, (rpOut_some HY.out).2]; rfl
            · rw [(rpOut_some HY.out).1]; exact own20_keepT HO91.out ho93 HS91.out.zero (by decide)
        · have hcn : ((c : Int) != 0) = true := by rw [bne, beq_eq_false_iff_ne.2 (show (c : Int) ≠ 0 by omega)]; rfl
          have HN := Lib.hid (show getRp b = none from by
            rw [HG.out, if_neg]
            rintro ⟨_, h3, _⟩
            exact hc0 (hc.2 h3))
          clear hc
          go_wp2_with (first | (with_reducible refine Agg.wpList_build0 46 rfl rfl (.agg (rpG 0 z20 [] z20 0 (.slice none 0 0) 0)) rp_build0 ?_) | (refine Agg.wpList_put rfl rfl 46 _ _ rfl g0 (rpG 0 z20 [] z20 0 (.slice none 0 0) 0) (rpG 0 z20 [] z20 0 (.slice none 0 0) 0) rfl rfl HS91.out.zero (rp_info z20_length z20_length) rfl (rp_one (l := []) (SliceOf.nil w none 0) _ _ _ _ _ _) ?_; intro w93 hb93 hx93 hs93 hk93))
          have hx := HS91.out.below.trans (hx93.mono HS91.out.g0_ge)
          refine Agg.post_row_tmp rfl rfl rfl hb93 rp_under rfl (rp_info z20_length z20_length) rfl ⟨.slice none 0 0, ?_, ?_, hx⟩
          · rw [(rpOut_none HN.out).1, (rpOut_none HN.out).2]; rfl
          · rw [(rpOut_none HN.out).1]; exact Own.nil _ _ _
end Go.Proofs.YtpnolgliklmnmaaGreat
