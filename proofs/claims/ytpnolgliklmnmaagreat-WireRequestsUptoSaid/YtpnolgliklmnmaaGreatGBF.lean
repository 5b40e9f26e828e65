/- spencekit.LentBytes. (Several texts in one.) -/
import Derived.Test.YtpnolgliklmnmaaGreatGBA
import Derived.Test.YtpnolgliklmnmaaGreatGAM
import Derived.Test.YtpnolgliklmnmaaGreatGAK
import Derived.Test.YtpnolgliklmnmaaGreatGAH
import Derived.Test.YtpnolgliklmnmaaGreatGAL
import Derived.Test.YtpnolgliklmnmaaGreatGBB
import Derived.Test.YtpnolgliklmnmaaGreatGAE
/-! A reply's cells. -/
namespace Go.Proofs.YtpnolgliklmnmaaGreat
open Go.RowKit Pl Go.Agg
/-- a reply's cells -/
def rpG (e : Int) (ph pn ch : List UInt8) (g : Int) (pv : Value) (m : Int) : Array Value := #[.int .i64 e] ++ (pC ph pn ++ (hC ch ++ #[.int .i64 g, pv, .int .i64 m]))
section
variable {e g m : Int} {pv : Value} {ph pn ch : List UInt8}
theorem rpG_size (hl : ph.length = 20) (hc : ch.length = 20) : (rpG e ph pn ch g pv m).size = 45 := by simp [rpG, pC_size, hC_size, hl, hc]
theorem rpG_path (j : Nat) (v : Value) (h : (pC ph pn)[j]? = some v) : (rpG e ph pn ch g pv m)[1 + j]? = some v := by
  have hj := (Array.getElem?_eq_some_iff.1 h).1
  unfold rpG
  rw [Array.getElem?_append_right (by simp), show 1 + j - (#[Value.int .i64 e] : Array Value).size = j by simp, Array.getElem?_append_left hj]
  exact h
theorem rpG_class (hl : ph.length = 20) (j : Nat) (v : Value) (h : (hC ch)[j]? = some v) : (rpG e ph pn ch g pv m)[22 + j]? = some v := by
  have hj := (Array.getElem?_eq_some_iff.1 h).1
  have hs : (pC ph pn).size = 21 := by rw [pC_size, hl]
  unfold rpG
  rw [Array.getElem?_append_right (by show 1 ≤ 22 + j; omega), show 22 + j - (#[Value.int .i64 e] : Array Value).size = 21 + j by show 22 + j - 1 = 21 + j; omega, Array.getElem?_append_right (by rw [hs]; omega), show 21 + j - (pC ph pn).size = j by rw [hs]; omega, Array.getElem?_append_left hj]
  exact h
theorem rpG_tail (hl : ph.length = 20) (hc : ch.length = 20) (j : Nat) : (rpG e ph pn ch g pv m)[42 + j]? = (#[.int .i64 g, pv, .int .i64 m] : Array Value)[j]? := by
  have hs : (pC ph pn).size = 21 := by rw [pC_size, hl]
  have hs2 : (hC ch).size = 20 := by rw [hC_size, hc]
  unfold rpG
  rw [Array.getElem?_append_right (by show 1 ≤ 42 + j; omega), show 42 + j - (#[Value.int .i64 e] : Array Value).size = 41 + j by show 42 + j - 1 = 41 + j; omega, Array.getElem?_append_right (by rw [hs]; omega), show 41 + j - (pC ph pn).size = 20 + j by rw [hs]; omega, Array.getElem?_append_right (by rw [hs2]; omega), show 20 + j - (hC ch).size = j by rw [hs2]; omega]
structure RpG (w : World) (b : Nat) (e : Int) (ph pn ch : List UInt8) (g : Int) (pv : Value) (m : Int) : Prop where
  all : LoadsL Tryz.prog w 46 (some ⟨b, 0, none⟩) (.agg (rpG e ph pn ch g pv m))
  err : LoadsL Tryz.prog w 33 (some ⟨b, 0, none⟩) (.int .i64 e)
  path : LoadsL Tryz.prog w 27 (some ⟨b, 1, none⟩) (.agg (pC ph pn))
  cls : LoadsL Tryz.prog w 25 (some ⟨b, 22, none⟩) (.agg (hC ch))
  goal : LoadsL Tryz.prog w 3 (some ⟨b, 42, none⟩) (.int .i64 g)
  paths : LoadsL Tryz.prog w 44 (some ⟨b, 43, none⟩) pv
  many : LoadsL Tryz.prog w 3 (some ⟨b, 44, none⟩) (.int .i64 m)
set_option maxRecDepth 100000 in
theorem RpG.of_blk {w : World} {b : Nat} (h : Blk w b 46 (rpG e ph pn ch g pv m)) (hl : ph.length = 20) (hc : ch.length = 20) : RpG w b e ph pn ch g pv m where
  all := h.loads (by kernel_rfl : Tryz.prog.underlying 46 = some (.struct (Tryz.prog.fieldsOf 46))) rfl (by rw [rpG_size hl hc]; kernel_rfl)
  err := h.one 0 (by unfold rpG; rw [Array.getElem?_append_left (by simp)]; rfl) Tryz.underlying33 rfl
  path := h.sub 1 (pC ph pn) (fun j v => rpG_path j v) pC_under rfl (pC_info ph pn hl)
  cls := h.sub 22 (hC ch) (rpG_class hl) Tryz.underlying25 rfl (hC_info ch hc)
  goal := h.one 42 (by rw [rpG_tail hl hc 0]; rfl) Tryz.underlying3 rfl
  paths := h.one 43 (by rw [rpG_tail hl hc 1]; rfl) (by kernel_rfl : Tryz.prog.underlying 44 = some (.slice 27)) rfl
  many := h.one 44 (by rw [rpG_tail hl hc 2]; rfl) Tryz.underlying3 rfl
theorem RpG.below {w w' : World} {b : Nat} (h : RpG w b e ph pn ch g pv m) (hb : Below w.heap.size w w') : RpG w' b e ph pn ch g pv m := ⟨h.all.below hb, h.err.below hb, h.path.below hb, h.cls.below hb, h.goal.below hb, h.paths.below hb, h.many.below hb⟩
/-! its fields written -/
variable {w : World} {b : Nat}
theorem rpB_err (h : Blk w b 46 (rpG e ph pn ch g pv m)) (hl : ph.length = 20) (hc : ch.length = 20) (x : Int) : ∃ w', (Instr.storeAt 33 (.pointer (some ⟨b, 0, none⟩)) (.int .i64 x)).run Tryz.prog w = .ok () w' ∧ Blk w' b 46 (rpG x ph pn ch g pv m) ∧ Only (· = b) w w' :=
  h.run_one 0 (by rw [rpG_size hl hc]; omega) _ rfl rfl (by kernel_rfl) _ (by simp [rpG])
theorem rpB_path (h : Blk w b 46 (rpG e ph pn ch g pv m)) (hl : ph.length = 20) (q r : List UInt8) (hq : q.length = 20) : ∃ w', (Instr.storeAt 27 (.pointer (some ⟨b, 1, none⟩)) (.agg (pC q r))).run Tryz.prog w = .ok () w' ∧ Blk w' b 46 (rpG e q r ch g pv m) ∧ Only (· = b) w w' :=
  Blk.run_row (a := #[.int .i64 e]) (b := pC ph pn) (c := hC ch ++ #[.int .i64 g, pv, .int .i64 m]) (pC q r) h (by rw [pC_size, pC_size, hl, hq]) (pC_info q r hq) (pC_one q r) rfl
theorem rpB_class (h : Blk w b 46 (rpG e ph pn ch g pv m)) (hl : ph.length = 20) (hc : ch.length = 20) (q : List UInt8) (hq : q.length = 20) : ∃ w', (Instr.storeAt 25 (.pointer (some ⟨b, 22, none⟩)) (.agg (hC q))).run Tryz.prog w = .ok () w' ∧ Blk w' b 46 (rpG e ph pn q g pv m) ∧ Only (· = b) w w' := by
  have e1 : ∀ x, rpG e ph pn x g pv m = (#[.int .i64 e] ++ pC ph pn) ++ (hC x ++ #[.int .i64 g, pv, .int .i64 m]) := fun x => by simp only [rpG, Array.append_assoc]
  rw [e1] at h
  rw [e1]
  exact Blk.run_row (i := 22) (a := #[.int .i64 e] ++ pC ph pn) (b := hC ch) (c := #[.int .i64 g, pv, .int .i64 m]) (hC q) h (by rw [hC_size, hC_size, hc, hq]) (hC_info q hq) (hC_one q) (by simp [pC_size, hl])
theorem rpG_set (hl : ph.length = 20) (hc : ch.length = 20) (j : Nat) (x : Value) : (rpG e ph pn ch g pv m).setIfInBounds (42 + j) x = #[.int .i64 e] ++ (pC ph pn ++ (hC ch ++ (#[.int .i64 g, pv, .int .i64 m] : Array Value).setIfInBounds j x)) := by
  have hs : (pC ph pn).size = 21 := by rw [pC_size, hl]
  have hs2 : (hC ch).size = 20 := by rw [hC_size, hc]
  unfold rpG
  rw [Array.setIfInBounds_append_right (by simp; omega), Array.setIfInBounds_append_right (by simp [hs]; omega), Array.setIfInBounds_append_right (by simp [hs, hs2]; omega)]
  congr 4
  simp [hs, hs2]
  omega
theorem rpB_goal (h : Blk w b 46 (rpG e ph pn ch g pv m)) (hl : ph.length = 20) (hc : ch.length = 20) (x : Int) : ∃ w', (Instr.storeAt 3 (.pointer (some ⟨b, 42, none⟩)) (.int .i64 x)).run Tryz.prog w = .ok () w' ∧ Blk w' b 46 (rpG e ph pn ch x pv m) ∧ Only (· = b) w w' :=
  h.run_one 42 (by rw [rpG_size hl hc]; omega) _ rfl rfl (by kernel_rfl) _ (rpG_set hl hc 0 _)
theorem rpB_paths (h : Blk w b 46 (rpG e ph pn ch g pv m)) (hl : ph.length = 20) (hc : ch.length = 20) (x : Value) (hx : x.cells = #[x]) (h1 : x.oneCell' = true) : ∃ w', (Instr.storeAt 44 (.pointer (some ⟨b, 43, none⟩)) x).run Tryz.prog w = .ok () w' ∧ Blk w' b 46 (rpG e ph pn ch g x m) ∧ Only (· = b) w w' :=
  h.run_one 43 (by rw [rpG_size hl hc]; omega) _ hx h1 (by kernel_rfl) _ (rpG_set hl hc 1 _)
theorem rpB_many (h : Blk w b 46 (rpG e ph pn ch g pv m)) (hl : ph.length = 20) (hc : ch.length = 20) (x : Int) : ∃ w', (Instr.storeAt 3 (.pointer (some ⟨b, 44, none⟩)) (.int .i64 x)).run Tryz.prog w = .ok () w' ∧ Blk w' b 46 (rpG e ph pn ch g pv x) ∧ Only (· = b) w w' :=
  h.run_one 44 (by rw [rpG_size hl hc]; omega) _ rfl rfl (by kernel_rfl) _ (rpG_set hl hc 2 _)
end
end Go.Proofs.YtpnolgliklmnmaaGreat
/-! spencekit.SameRequest, SamePaths, SameReply, PathsOf. -/
namespace Go.Proofs.YtpnolgliklmnmaaGreat
open Go.RowKit Pl Go.Agg
def sameRq (p q : Rq) : Bool := (p.k == q.k) && ((p.u == q.u) && ((p.wh == q.wh) && ((p.nm == q.nm) && (decide (p.bs = q.bs) && ((p.ph == q.ph && p.pn == q.pn) && (p.ch == q.ch))))))
theorem sameRq_eq (p q : Rq) : sameRq p q = true ↔ p = q := by
  obtain ⟨a1, a2, a3, a4, a5, a6, a7, a8⟩ := p
  obtain ⟨b1, b2, b3, b4, b5, b6, b7, b8⟩ := q
  simp [sameRq, and_assoc]
def sameRp (p q : Rp) : Bool := (p.e == q.e) && ((p.ph == q.ph && p.pn == q.pn) && ((p.ch == q.ch) && ((p.g == q.g) && (decide (p.l = q.l) && (p.m == q.m)))))
theorem sameRp_eq (p q : Rp) : sameRp p q = true ↔ p = q := by
  obtain ⟨a1, a2, a3, a4, a5, a6, a7⟩ := p
  obtain ⟨b1, b2, b3, b4, b5, b6, b7⟩ := q
  simp [sameRp, and_assoc]
set_option maxRecDepth 100000 in
set_option maxHeartbeats 4000000 in
theorem sameRq_any (k u wh : Int) (nm : List UInt8) (vb : Value) (bs ph pn ch : List UInt8) (hl : ph.length = 20) (hc : ch.length = 20) (k' u' wh' : Int) (nm' : List UInt8) (vb' : Value) (bs' ph' pn' ch' : List UInt8) (hl' : ph'.length = 20) (hc' : ch'.length = 20) (h1m : bs.length ≤ 1048576) (h2m : bs'.length ≤ 1048576) (w : World) (hb : BytesAt w vb bs) (hb' : BytesAt w vb' bs') :
    Calls Tryz.prog 16 #[.agg (rqG k u wh nm vb ph pn ch), .agg (rqG k' u' wh' nm' vb' ph' pn' ch')] w fun e w' => e = .returned (.bool (sameRq ⟨k, u, wh, nm, bs, ph, pn, ch⟩ ⟨k', u', wh', nm', bs', ph', pn', ch'⟩)) ∧ Below w.heap.size w w' := by
  have hta := Agg.bytes_toList nm
  have htb := Agg.bytes_toList nm'
  have HY1 := Lib.hid hb
  have HY2 := Lib.hid hb'
  clear hb hb'
  obtain ⟨b6, h6⟩ : ∃ b, (ph == ph' && pn == pn') = b := ⟨_, rfl⟩
  obtain ⟨b7, h7⟩ : ∃ b, (ch == ch') = b := ⟨_, rfl⟩
  have HE6 := Lib.hid (fun W => (show (binOp .eql 27 (.agg (pC ph pn)) (.agg (pC ph' pn'))).run Tryz.prog W = .ok (.bool b6) W by rw [← h6]; exact eql_path ph pn ph' pn' hl hl' W))
  have HE7 := Lib.hid (fun W => (show (binOp .eql 25 (.agg (hC ch)) (.agg (hC ch'))).run Tryz.prog W = .ok (.bool b7) W by rw [← h7]; exact eql_hash ch ch' hc hc' W))
  have H6 := Lib.hid h6
  have H7 := Lib.hid h7
  clear h6 h7
  cases h1 : (k == k') with
  | false =>
    have HR := Lib.hid (show (sameRq ⟨k, u, wh, nm, bs, ph, pn, ch⟩ ⟨k', u', wh', nm', bs', ph', pn', ch'⟩) = false from by simp [sameRq, h1])
    go_enter Tryz.func16, Tryz.ntmps16
    go_wp2_with (first | (with_reducible refine Agg.wpList_box rfl 29 _ rfl (rqG k u wh nm vb ph pn ch) rfl ?_; intro g1 w1 hb1 hx1 hg1; have HB1 := Lib.hid hb1; have HX1 := Lib.hid hx1; clear hb1 hx1 hg1) | (with_reducible refine Agg.wpList_box rfl 29 _ rfl (rqG k' u' wh' nm' vb' ph' pn' ch') rfl ?_; intro g2 w2 hb2 hx2 hg2; have HL1 := Lib.hid (RqG.of_blk (HB1.out.below hx2) hl hc); have HL2 := Lib.hid (RqG.of_blk hb2 hl' hc'); have HW := Lib.hid (Agg.belowThen HX1.out (Nat.le_refl _) hx2); clear hb2 hx2 hg2) | (with_reducible refine Agg.wpList_loadL HL1.out.kind rfl _ rfl rfl ?_) | (with_reducible refine Agg.wpList_loadL HL2.out.kind rfl _ rfl rfl ?_))
    go_ret
    exact ⟨ret_bool HR.out.symm, HW.out⟩
  | true =>
  cases h2 : (u == u') with
  | false =>
    have HR := Lib.hid (show (sameRq ⟨k, u, wh, nm, bs, ph, pn, ch⟩ ⟨k', u', wh', nm', bs', ph', pn', ch'⟩) = false from by simp [sameRq, h2])
    go_enter Tryz.func16, Tryz.ntmps16
    go_wp2_with (first | (with_reducible refine Agg.wpList_box rfl 29 _ rfl (rqG k u wh nm vb ph pn ch) rfl ?_; intro g1 w1 hb1 hx1 hg1; have HB1 := Lib.hid hb1; have HX1 := Lib.hid hx1; clear hb1 hx1 hg1) | (with_reducible refine Agg.wpList_box rfl 29 _ rfl (rqG k' u' wh' nm' vb' ph' pn' ch') rfl ?_; intro g2 w2 hb2 hx2 hg2; have HL1 := Lib.hid (RqG.of_blk (HB1.out.below hx2) hl hc); have HL2 := Lib.hid (RqG.of_blk hb2 hl' hc'); have HW := Lib.hid (Agg.belowThen HX1.out (Nat.le_refl _) hx2); clear hb2 hx2 hg2) | (with_reducible refine Agg.wpList_loadL HL1.out.kind rfl _ rfl rfl ?_) | (with_reducible refine Agg.wpList_loadL HL2.out.kind rfl _ rfl rfl ?_) | (with_reducible refine Agg.wpList_loadL HL1.out.user rfl _ rfl rfl ?_) | (with_reducible refine Agg.wpList_loadL HL2.out.user rfl _ rfl rfl ?_))
    go_ret
    exact ⟨ret_bool HR.out.symm, HW.out⟩
  | true =>
  cases h3 : (wh == wh') with
  | false =>
    have HR := Lib.hid (show (sameRq ⟨k, u, wh, nm, bs, ph, pn, ch⟩ ⟨k', u', wh', nm', bs', ph', pn', ch'⟩) = false from by simp [sameRq, h3])
    go_enter Tryz.func16, Tryz.ntmps16
    go_wp2_with (first | (with_reducible refine Agg.wpList_box rfl 29 _ rfl (rqG k u wh nm vb ph pn ch) rfl ?_; intro g1 w1 hb1 hx1 hg1; have HB1 := Lib.hid hb1; have HX1 := Lib.hid hx1; clear hb1 hx1 hg1) | (with_reducible refine Agg.wpList_box rfl 29 _ rfl (rqG k' u' wh' nm' vb' ph' pn' ch') rfl ?_; intro g2 w2 hb2 hx2 hg2; have HL1 := Lib.hid (RqG.of_blk (HB1.out.below hx2) hl hc); have HL2 := Lib.hid (RqG.of_blk hb2 hl' hc'); have HW := Lib.hid (Agg.belowThen HX1.out (Nat.le_refl _) hx2); clear hb2 hx2 hg2) | (with_reducible refine Agg.wpList_loadL HL1.out.kind rfl _ rfl rfl ?_) | (with_reducible refine Agg.wpList_loadL HL2.out.kind rfl _ rfl rfl ?_) | (with_reducible refine Agg.wpList_loadL HL1.out.user rfl _ rfl rfl ?_) | (with_reducible refine Agg.wpList_loadL HL2.out.user rfl _ rfl rfl ?_) | (with_reducible refine Agg.wpList_loadL HL1.out.who rfl _ rfl rfl ?_) | (with_reducible refine Agg.wpList_loadL HL2.out.who rfl _ rfl rfl ?_))
    go_ret
    exact ⟨ret_bool HR.out.symm, HW.out⟩
  | true =>
  cases h4 : (nm == nm') with
  | false =>
    have HR := Lib.hid (show (sameRq ⟨k, u, wh, nm, bs, ph, pn, ch⟩ ⟨k', u', wh', nm', bs', ph', pn', ch'⟩) = false from by simp [sameRq, h4])
    go_enter Tryz.func16, Tryz.ntmps16
    go_wp2_with (first | (with_reducible refine Agg.wpList_box rfl 29 _ rfl (rqG k u wh nm vb ph pn ch) rfl ?_; intro g1 w1 hb1 hx1 hg1; have HB1 := Lib.hid hb1; have HX1 := Lib.hid hx1; clear hb1 hx1 hg1) | (with_reducible refine Agg.wpList_box rfl 29 _ rfl (rqG k' u' wh' nm' vb' ph' pn' ch') rfl ?_; intro g2 w2 hb2 hx2 hg2; have HL1 := Lib.hid (RqG.of_blk (HB1.out.below hx2) hl hc); have HL2 := Lib.hid (RqG.of_blk hb2 hl' hc'); have HW := Lib.hid (Agg.belowThen HX1.out (Nat.le_refl _) hx2); clear hb2 hx2 hg2) | (with_reducible refine Agg.wpList_loadL HL1.out.kind rfl _ rfl rfl ?_) | (with_reducible refine Agg.wpList_loadL HL2.out.kind rfl _ rfl rfl ?_) | (with_reducible refine Agg.wpList_loadL HL1.out.user rfl _ rfl rfl ?_) | (with_reducible refine Agg.wpList_loadL HL2.out.user rfl _ rfl rfl ?_) | (with_reducible refine Agg.wpList_loadL HL1.out.who rfl _ rfl rfl ?_) | (with_reducible refine Agg.wpList_loadL HL2.out.who rfl _ rfl rfl ?_) | (with_reducible refine Agg.wpList_loadL HL1.out.name rfl _ rfl rfl ?_) | (with_reducible refine Agg.wpList_loadL HL2.out.name rfl _ rfl rfl ?_))
    go_ret
    exact ⟨ret_bool HR.out.symm, HW.out⟩
  | true =>
  have HA := Lib.hid (show (sameRq ⟨k, u, wh, nm, bs, ph, pn, ch⟩ ⟨k', u', wh', nm', bs', ph', pn', ch'⟩) = (decide (bs = bs') && (b6 && b7)) from by simp only [sameRq, h1, h2, h3, h4, H6.out, H7.out, Bool.true_and])
  go_enter Tryz.func16, Tryz.ntmps16
  go_wp2_with (first | (with_reducible refine Agg.wpList_box rfl 29 _ rfl (rqG k u wh nm vb ph pn ch) rfl ?_; intro g1 w1 hb1 hx1 hg1; have HB1 := Lib.hid hb1; have HX1 := Lib.hid hx1; clear hb1 hx1 hg1) | (with_reducible refine Agg.wpList_box rfl 29 _ rfl (rqG k' u' wh' nm' vb' ph' pn' ch') rfl ?_; intro g2 w2 hb2 hx2 hg2; have HL1 := Lib.hid (RqG.of_blk (HB1.out.below hx2) hl hc); have HL2 := Lib.hid (RqG.of_blk hb2 hl' hc'); have HW := Lib.hid (Agg.belowThen HX1.out (Nat.le_refl _) hx2); clear hb2 hx2 hg2) | (with_reducible refine Agg.wpList_loadL HL1.out.kind rfl _ rfl rfl ?_) | (with_reducible refine Agg.wpList_loadL HL2.out.kind rfl _ rfl rfl ?_) | (with_reducible refine Agg.wpList_loadL HL1.out.user rfl _ rfl rfl ?_) | (with_reducible refine Agg.wpList_loadL HL2.out.user rfl _ rfl rfl ?_) | (with_reducible refine Agg.wpList_loadL HL1.out.who rfl _ rfl rfl ?_) | (with_reducible refine Agg.wpList_loadL HL2.out.who rfl _ rfl rfl ?_) | (with_reducible refine Agg.wpList_loadL HL1.out.name rfl _ rfl rfl ?_) | (with_reducible refine Agg.wpList_loadL HL2.out.name rfl _ rfl rfl ?_) | (with_reducible refine Agg.wpList_loadL HL1.out.bytes rfl _ rfl rfl ?_) | (with_reducible refine Agg.wpList_loadL HL2.out.bytes rfl _ rfl rfl ?_))
  refine (sameBytes_any vb vb' bs bs' h1m h2m _ (HY1.out.below HW.out) (HY2.out.below HW.out)).mono ?_
  rintro e w3 ⟨rfl, hx3⟩
  have HL1 := Lib.hid (HL1.out.below hx3)
  have HL2 := Lib.hid (HL2.out.below hx3)
  have HW3 := Lib.hid (Agg.belowThen HW.out (Nat.le_refl _) hx3)
  clear hx3
  cases h5 : decide (bs = bs') with
  | false =>
    have HR := Lib.hid (HA.out.trans (by simp [h5] : _ = false))
    clear h5
    go_wp2_with fail
    go_ret
    exact ⟨ret_bool HR.out.symm, HW3.out⟩
  | true =>
    have HA5 := Lib.hid (HA.out.trans (by rw [h5]; rfl : _ = (b6 && b7)))
    clear h5
    cases b6 with
    | false =>
      go_wp2_with (first | (with_reducible refine Agg.wpList_loadL HL1.out.path rfl _ rfl rfl ?_) | (with_reducible refine Agg.wpList_loadL HL2.out.path rfl _ rfl rfl ?_) | (with_reducible refine Agg.wpList_eqlw 27 27 _ _ rfl rfl (pC ph pn) (pC ph' pn') rfl rfl false (by kernel_rfl) HE6.out ?_))
      go_ret
      exact ⟨ret_bool HA5.out.symm, HW3.out⟩
    | true =>
      go_wp2_with (first | (with_reducible refine Agg.wpList_loadL HL1.out.path rfl _ rfl rfl ?_) | (with_reducible refine Agg.wpList_loadL HL2.out.path rfl _ rfl rfl ?_) | (with_reducible refine Agg.wpList_loadL HL1.out.cls rfl _ rfl rfl ?_) | (with_reducible refine Agg.wpList_loadL HL2.out.cls rfl _ rfl rfl ?_) | (with_reducible refine Agg.wpList_eqlw 27 27 _ _ rfl rfl (pC ph pn) (pC ph' pn') rfl rfl true (by kernel_rfl) HE6.out ?_) | (with_reducible refine Agg.wpList_eqlw 25 25 _ _ rfl rfl (hC ch) (hC ch') rfl rfl b7 (by kernel_rfl) HE7.out ?_))
      go_ret
      exact ⟨ret_bool HA5.out.symm, HW3.out⟩
theorem ne_atP {a b : List P20} {k : Nat} {x y : P20} (hx : a[k]? = some x) (hy : b[k]? = some y) (h : ¬ x = y) : a ≠ b := by
  rintro rfl
  rw [hx] at hy
  exact h (Option.some.inj hy)
theorem take_succP {a b : List P20} {k : Nat} {x y : P20} (hx : a[k]? = some x) (hy : b[k]? = some y) (ht : a.take k = b.take k) (h : x = y) : a.take (k + 1) = b.take (k + 1) := by
  rw [List.take_add_one, List.take_add_one, hx, hy, ht, h]
theorem ne_eqP {x y : P20} : (x.1.1 == y.1.1 && x.1.2 == y.1.2) = decide (x = y) := by
  obtain ⟨⟨a, b⟩, hx⟩ := x
  obtain ⟨⟨c, d⟩, hy⟩ := y
  by_cases h1 : a = c <;> by_cases h2 : b = d <;> simp [h1, h2]
set_option maxRecDepth 100000 in
set_option maxHeartbeats 1000000 in
theorem samePaths_any (v u : Value) (a b : List P20) (_ha : a.length ≤ 1048576) (hb : b.length ≤ 1048576) (w : World) (he : ElemsAt w v a) (hf : ElemsAt w u b) :
    Calls Tryz.prog 73 #[v, u] w fun e w' => e = .returned (.bool (decide (a = b))) ∧ Below w.heap.size w w' := by
  have hlv := fun W => elems_len he W
  have hlu := fun W => elems_len hf W
  have HE := Lib.hid he
  have HF := Lib.hid hf
  clear he hf
  by_cases hlen : a.length = b.length
  · have hne : ((a.length : Int) != (b.length : Int)) = false := by simp [hlen]
    have HLEN := Lib.hid hlen
    rw [hlen] at hlv hne
    clear hlen
    go_enter Tryz.func73, Tryz.ntmps73
    go_wp2_with fail
    go_loopw [5] (fun i wr => ∃ k : Nat, k ≤ b.length ∧ i = .int .i64 k ∧ a.take k = b.take k ∧ Below w.heap.size w wr) (fun i _ => b.length - (intOf i).toNat)
    case atStart => exact ⟨0, by omega, rfl, rfl, Below.refl _ _⟩
    case round =>
      obtain ⟨w1, rfl⟩ : ∃ w1 : World, w1 = wr := ⟨_, rfl⟩
      obtain ⟨k, hk, rfl, htk, hw⟩ := hrel
      have HTK := Lib.hid htk
      clear htk
      by_cases hlt : k < b.length
      · obtain ⟨y, hyk⟩ : ∃ y, b[k]? = some y := ⟨_, List.getElem?_eq_getElem hlt⟩
        obtain ⟨x, hxk⟩ : ∃ x, a[k]? = some x := ⟨_, List.getElem?_eq_getElem (by rw [HLEN.out]; exact hlt)⟩
        obtain ⟨p, hadr, hld, _⟩ := elem_at (HE.out.below hw) k x hxk
        obtain ⟨q, hadq, hlq, _⟩ := elem_at (HF.out.below hw) k y hyk
        have HLX := Lib.hid hld
        have HLY := Lib.hid hlq
        have HX := Lib.hid hxk
        have HY := Lib.hid hyk
        have HQ := Lib.hid (fun W => (show (binOp .neq 27 (.agg (pC x.1.1 x.1.2)) (.agg (pC y.1.1 y.1.2))).run Tryz.prog W = .ok (.bool (!(decide (x = y)))) W by rw [neq_path _ _ _ _ x.2 y.2, ne_eqP]))
        clear hld hlq hxk hyk
        by_cases hxy : x = y
        · have HXY := Lib.hid hxy
          have HD := Lib.hid (fun W => (HQ.out W).trans (by simp [hxy] : _ = .ok (.bool false) W))
          clear hxy
          go_wp2_with fail
          try simp only [Act.put, List.setIfInBounds_toArray, List.set_cons_succ, List.set_cons_zero]
          refine Agg.wp_region_later_lit (by kernel_rfl) (by kernel_rfl) ?_
          repeat (first | go_big_quiet_skip | ((first | (with_reducible refine Agg.wpQuiet_loadL HLX.out rfl _ rfl rfl ?_) | (with_reducible refine Agg.wpQuiet_loadL HLY.out rfl _ rfl rfl ?_) | (with_reducible refine Agg.wpQuiet_neq 27 27 _ _ rfl rfl (pC x.1.1 x.1.2) (pC y.1.1 y.1.2) rfl rfl (false) (by kernel_rfl) HD.out ?_)); simp only [Act.put, List.setIfInBounds_toArray, List.set_cons_succ, List.set_cons_zero]) | go_big_quiet_step (fail))
          refine wpQuiet_nil ?_
          intro _ hw'
          obtain ⟨x1, rfl⟩ := hw'
          go_wp2_with fail
          go_roundw
          case rel => exact ⟨k + 1, by omega, by go_num, take_succP HX.out HY.out HTK.out HXY.out, Agg.belowThen hw (Nat.le_refl _) x1.h⟩
          case measure => simp [intOf]; omega
        · have HXY := Lib.hid hxy
          have HD := Lib.hid (fun W => (HQ.out W).trans (by simp [hxy] : _ = .ok (.bool true) W))
          clear hxy
          go_wp2_with fail
          try simp only [Act.put, List.setIfInBounds_toArray, List.set_cons_succ, List.set_cons_zero]
          refine Agg.wp_region_later_lit (by kernel_rfl) (by kernel_rfl) ?_
          repeat (first | go_big_quiet_skip | ((first | (with_reducible refine Agg.wpQuiet_loadL HLX.out rfl _ rfl rfl ?_) | (with_reducible refine Agg.wpQuiet_loadL HLY.out rfl _ rfl rfl ?_) | (with_reducible refine Agg.wpQuiet_neq 27 27 _ _ rfl rfl (pC x.1.1 x.1.2) (pC y.1.1 y.1.2) rfl rfl (true) (by kernel_rfl) HD.out ?_)); simp only [Act.put, List.setIfInBounds_toArray, List.set_cons_succ, List.set_cons_zero]) | go_big_quiet_step (fail))
          refine wpQuiet_nil ?_
          intro _ hw'
          obtain ⟨x1, rfl⟩ := hw'
          have HR := Lib.hid (decide_eq_false (ne_atP HX.out HY.out HXY.out))
          go_wp2_with fail
          go_ret
          exact ⟨ret_bool HR.out.symm, Agg.belowThen hw (Nat.le_refl _) x1.h⟩
      · obtain rfl : k = b.length := by omega
        have HR := Lib.hid (show decide (a = b) = true from by
          have h := HTK.out
          rw [List.take_length, ← HLEN.out, List.take_length] at h
          simpa using h)
        go_wp2_with fail
        go_ret
        exact ⟨ret_bool HR.out.symm, hw⟩
  · have hne : ((a.length : Int) != (b.length : Int)) = true := by simp [bne_iff_ne]; omega
    have HR := Lib.hid (show decide (a = b) = false from by
      refine decide_eq_false fun h => hlen (by rw [h]))
    clear hlen
    go_enter Tryz.func73, Tryz.ntmps73
    go_wp2_with fail
    go_ret
    exact ⟨ret_bool HR.out.symm, Below.refl _ _⟩
set_option maxRecDepth 100000 in
set_option maxHeartbeats 4000000 in
theorem sameRp_any (e g m : Int) (ph pn ch : List UInt8) (pv : Value) (l : List P20) (hl : ph.length = 20) (hc : ch.length = 20) (e' g' m' : Int) (ph' pn' ch' : List UInt8) (pv' : Value) (l' : List P20) (hl' : ph'.length = 20) (hc' : ch'.length = 20) (h1m : l.length ≤ 1048576) (h2m : l'.length ≤ 1048576) (w : World) (hb : ElemsAt w pv l) (hb' : ElemsAt w pv' l') :
    Calls Tryz.prog 28 #[.agg (rpG e ph pn ch g pv m), .agg (rpG e' ph' pn' ch' g' pv' m')] w fun x w' => x = .returned (.bool (sameRp ⟨e, ph, pn, ch, g, l, m⟩ ⟨e', ph', pn', ch', g', l', m'⟩)) ∧ Below w.heap.size w w' := by
  have HY1 := Lib.hid hb
  have HY2 := Lib.hid hb'
  clear hb hb'
  obtain ⟨b2, h2⟩ : ∃ b, (ph == ph' && pn == pn') = b := ⟨_, rfl⟩
  obtain ⟨b3, h3⟩ : ∃ b, (ch == ch') = b := ⟨_, rfl⟩
  have HE2 := Lib.hid (fun W => (show (binOp .eql 27 (.agg (pC ph pn)) (.agg (pC ph' pn'))).run Tryz.prog W = .ok (.bool b2) W by rw [← h2]; exact eql_path ph pn ph' pn' hl hl' W))
  have HE3 := Lib.hid (fun W => (show (binOp .eql 25 (.agg (hC ch)) (.agg (hC ch'))).run Tryz.prog W = .ok (.bool b3) W by rw [← h3]; exact eql_hash ch ch' hc hc' W))
  have H2 := Lib.hid h2
  have H3 := Lib.hid h3
  clear h2 h3
  cases h1 : (e == e') with
  | false =>
    have HR := Lib.hid (show (sameRp ⟨e, ph, pn, ch, g, l, m⟩ ⟨e', ph', pn', ch', g', l', m'⟩) = false from by simp [sameRp, h1])
    go_enter Tryz.func28, Tryz.ntmps28
    go_wp2_with (first | (with_reducible refine Agg.wpList_box rfl 46 _ rfl (rpG e ph pn ch g pv m) rfl ?_; intro g1 w1 hb1 hx1 hg1; have HB1 := Lib.hid hb1; have HX1 := Lib.hid hx1; clear hb1 hx1 hg1) | (with_reducible refine Agg.wpList_box rfl 46 _ rfl (rpG e' ph' pn' ch' g' pv' m') rfl ?_; intro g2 w2 hb2 hx2 hg2; have HL1 := Lib.hid (RpG.of_blk (HB1.out.below hx2) hl hc); have HL2 := Lib.hid (RpG.of_blk hb2 hl' hc'); have HW := Lib.hid (Agg.belowThen HX1.out (Nat.le_refl _) hx2); clear hb2 hx2 hg2) | (with_reducible refine Agg.wpList_loadL HL1.out.err rfl _ rfl rfl ?_) | (with_reducible refine Agg.wpList_loadL HL2.out.err rfl _ rfl rfl ?_))
    go_ret
    exact ⟨ret_bool HR.out.symm, HW.out⟩
  | true =>
  cases b2 with
  | false =>
    have HR := Lib.hid (show (sameRp ⟨e, ph, pn, ch, g, l, m⟩ ⟨e', ph', pn', ch', g', l', m'⟩) = false from by simp only [sameRp, H2.out, Bool.false_and, Bool.and_false])
    go_enter Tryz.func28, Tryz.ntmps28
    go_wp2_with (first | (with_reducible refine Agg.wpList_box rfl 46 _ rfl (rpG e ph pn ch g pv m) rfl ?_; intro g1 w1 hb1 hx1 hg1; have HB1 := Lib.hid hb1; have HX1 := Lib.hid hx1; clear hb1 hx1 hg1) | (with_reducible refine Agg.wpList_box rfl 46 _ rfl (rpG e' ph' pn' ch' g' pv' m') rfl ?_; intro g2 w2 hb2 hx2 hg2; have HL1 := Lib.hid (RpG.of_blk (HB1.out.below hx2) hl hc); have HL2 := Lib.hid (RpG.of_blk hb2 hl' hc'); have HW := Lib.hid (Agg.belowThen HX1.out (Nat.le_refl _) hx2); clear hb2 hx2 hg2) | (with_reducible refine Agg.wpList_loadL HL1.out.err rfl _ rfl rfl ?_) | (with_reducible refine Agg.wpList_loadL HL2.out.err rfl _ rfl rfl ?_) | (with_reducible refine Agg.wpList_loadL HL1.out.path rfl _ rfl rfl ?_) | (with_reducible refine Agg.wpList_loadL HL2.out.path rfl _ rfl rfl ?_) | (with_reducible refine Agg.wpList_eqlw 27 27 _ _ rfl rfl (pC ph pn) (pC ph' pn') rfl rfl false (by kernel_rfl) HE2.out ?_))
    go_ret
    exact ⟨ret_bool HR.out.symm, HW.out⟩
  | true =>
  cases b3 with
  | false =>
    have HR := Lib.hid (show (sameRp ⟨e, ph, pn, ch, g, l, m⟩ ⟨e', ph', pn', ch', g', l', m'⟩) = false from by simp only [sameRp, H3.out, Bool.false_and, Bool.and_false])
    go_enter Tryz.func28, Tryz.ntmps28
    go_wp2_with (first | (with_reducible refine Agg.wpList_box rfl 46 _ rfl (rpG e ph pn ch g pv m) rfl ?_; intro g1 w1 hb1 hx1 hg1; have HB1 := Lib.hid hb1; have HX1 := Lib.hid hx1; clear hb1 hx1 hg1) | (with_reducible refine Agg.wpList_box rfl 46 _ rfl (rpG e' ph' pn' ch' g' pv' m') rfl ?_; intro g2 w2 hb2 hx2 hg2; have HL1 := Lib.hid (RpG.of_blk (HB1.out.below hx2) hl hc); have HL2 := Lib.hid (RpG.of_blk hb2 hl' hc'); have HW := Lib.hid (Agg.belowThen HX1.out (Nat.le_refl _) hx2); clear hb2 hx2 hg2) | (with_reducible refine Agg.wpList_loadL HL1.out.err rfl _ rfl rfl ?_) | (with_reducible refine Agg.wpList_loadL HL2.out.err rfl _ rfl rfl ?_) | (with_reducible refine Agg.wpList_loadL HL1.out.path rfl _ rfl rfl ?_) | (with_reducible refine Agg.wpList_loadL HL2.out.path rfl _ rfl rfl ?_) | (with_reducible refine Agg.wpList_loadL HL1.out.cls rfl _ rfl rfl ?_) | (with_reducible refine Agg.wpList_loadL HL2.out.cls rfl _ rfl rfl ?_) | (with_reducible refine Agg.wpList_eqlw 27 27 _ _ rfl rfl (pC ph pn) (pC ph' pn') rfl rfl true (by kernel_rfl) HE2.out ?_) | (with_reducible refine Agg.wpList_eqlw 25 25 _ _ rfl rfl (hC ch) (hC ch') rfl rfl false (by kernel_rfl) HE3.out ?_))
    go_ret
    exact ⟨ret_bool HR.out.symm, HW.out⟩
  | true =>
  cases h4 : (g == g') with
  | false =>
    have HR := Lib.hid (show (sameRp ⟨e, ph, pn, ch, g, l, m⟩ ⟨e', ph', pn', ch', g', l', m'⟩) = false from by simp [sameRp, h4])
    go_enter Tryz.func28, Tryz.ntmps28
    go_wp2_with (first | (with_reducible refine Agg.wpList_box rfl 46 _ rfl (rpG e ph pn ch g pv m) rfl ?_; intro g1 w1 hb1 hx1 hg1; have HB1 := Lib.hid hb1; have HX1 := Lib.hid hx1; clear hb1 hx1 hg1) | (with_reducible refine Agg.wpList_box rfl 46 _ rfl (rpG e' ph' pn' ch' g' pv' m') rfl ?_; intro g2 w2 hb2 hx2 hg2; have HL1 := Lib.hid (RpG.of_blk (HB1.out.below hx2) hl hc); have HL2 := Lib.hid (RpG.of_blk hb2 hl' hc'); have HW := Lib.hid (Agg.belowThen HX1.out (Nat.le_refl _) hx2); clear hb2 hx2 hg2) | (with_reducible refine Agg.wpList_loadL HL1.out.err rfl _ rfl rfl ?_) | (with_reducible refine Agg.wpList_loadL HL2.out.err rfl _ rfl rfl ?_) | (with_reducible refine Agg.wpList_loadL HL1.out.path rfl _ rfl rfl ?_) | (with_reducible refine Agg.wpList_loadL HL2.out.path rfl _ rfl rfl ?_) | (with_reducible refine Agg.wpList_loadL HL1.out.cls rfl _ rfl rfl ?_) | (with_reducible refine Agg.wpList_loadL HL2.out.cls rfl _ rfl rfl ?_) | (with_reducible refine Agg.wpList_loadL HL1.out.goal rfl _ rfl rfl ?_) | (with_reducible refine Agg.wpList_loadL HL2.out.goal rfl _ rfl rfl ?_) | (with_reducible refine Agg.wpList_eqlw 27 27 _ _ rfl rfl (pC ph pn) (pC ph' pn') rfl rfl true (by kernel_rfl) HE2.out ?_) | (with_reducible refine Agg.wpList_eqlw 25 25 _ _ rfl rfl (hC ch) (hC ch') rfl rfl true (by kernel_rfl) HE3.out ?_))
    go_ret
    exact ⟨ret_bool HR.out.symm, HW.out⟩
  | true =>
  have HA := Lib.hid (show (sameRp ⟨e, ph, pn, ch, g, l, m⟩ ⟨e', ph', pn', ch', g', l', m'⟩) = (decide (l = l') && (m == m')) from by simp only [sameRp, h1, H2.out, H3.out, h4, Bool.true_and])
  go_enter Tryz.func28, Tryz.ntmps28
  go_wp2_with (first | (with_reducible refine Agg.wpList_box rfl 46 _ rfl (rpG e ph pn ch g pv m) rfl ?_; intro g1 w1 hb1 hx1 hg1; have HB1 := Lib.hid hb1; have HX1 := Lib.hid hx1; clear hb1 hx1 hg1) | (with_reducible refine Agg.wpList_box rfl 46 _ rfl (rpG e' ph' pn' ch' g' pv' m') rfl ?_; intro g2 w2 hb2 hx2 hg2; have HL1 := Lib.hid (RpG.of_blk (HB1.out.below hx2) hl hc); have HL2 := Lib.hid (RpG.of_blk hb2 hl' hc'); have HW := Lib.hid (Agg.belowThen HX1.out (Nat.le_refl _) hx2); clear hb2 hx2 hg2) | (with_reducible refine Agg.wpList_loadL HL1.out.err rfl _ rfl rfl ?_) | (with_reducible refine Agg.wpList_loadL HL2.out.err rfl _ rfl rfl ?_) | (with_reducible refine Agg.wpList_loadL HL1.out.path rfl _ rfl rfl ?_) | (with_reducible refine Agg.wpList_loadL HL2.out.path rfl _ rfl rfl ?_) | (with_reducible refine Agg.wpList_loadL HL1.out.cls rfl _ rfl rfl ?_) | (with_reducible refine Agg.wpList_loadL HL2.out.cls rfl _ rfl rfl ?_) | (with_reducible refine Agg.wpList_loadL HL1.out.goal rfl _ rfl rfl ?_) | (with_reducible refine Agg.wpList_loadL HL2.out.goal rfl _ rfl rfl ?_) | (with_reducible refine Agg.wpList_loadL HL1.out.paths rfl _ rfl rfl ?_) | (with_reducible refine Agg.wpList_loadL HL2.out.paths rfl _ rfl rfl ?_) | (with_reducible refine Agg.wpList_eqlw 27 27 _ _ rfl rfl (pC ph pn) (pC ph' pn') rfl rfl true (by kernel_rfl) HE2.out ?_) | (with_reducible refine Agg.wpList_eqlw 25 25 _ _ rfl rfl (hC ch) (hC ch') rfl rfl true (by kernel_rfl) HE3.out ?_))
  refine (samePaths_any pv pv' l l' h1m h2m _ (HY1.out.below HW.out) (HY2.out.below HW.out)).mono ?_
  rintro x w3 ⟨rfl, hx3⟩
  have HL1 := Lib.hid (HL1.out.below hx3)
  have HL2 := Lib.hid (HL2.out.below hx3)
  have HW3 := Lib.hid (Agg.belowThen HW.out (Nat.le_refl _) hx3)
  clear hx3
  cases h5 : decide (l = l') with
  | false =>
    have HR := Lib.hid (HA.out.trans (by simp [h5] : _ = false))
    clear h5
    go_wp2_with fail
    go_ret
    exact ⟨ret_bool HR.out.symm, HW3.out⟩
  | true =>
    have HA5 := Lib.hid (HA.out.trans (by rw [h5]; rfl : _ = (m == m')))
    clear h5
    go_wp2_with (first | (with_reducible refine Agg.wpList_loadL HL1.out.many rfl _ rfl rfl ?_) | (with_reducible refine Agg.wpList_loadL HL2.out.many rfl _ rfl rfl ?_))
    go_ret
    exact ⟨ret_bool HA5.out.symm, HW3.out⟩
/-- how many they are, with their names' bytes; no more than just past most -/
def pathsGo (most : Nat) : Nat → List P20 → Nat
  | n, [] => n
  | n, x :: l => if n ≤ most then pathsGo most (n + 1 + x.1.2.length) l else n
theorem pathsGo_le {most : Nat} : ∀ {l : List P20} {n : Nat}, pathsGo most n l ≤ most → n + (l.map fun x => 1 + x.1.2.length).sum ≤ most
  | [], n, h => by simpa [pathsGo] using h
  | x :: l, n, h => by
    unfold pathsGo at h
    split at h
    · have := pathsGo_le h
      simp only [List.map_cons, List.sum_cons]
      omega
    · omega
theorem pathsGo_drop {most n k : Nat} {l : List P20} {x : P20} (hx : l[k]? = some x) (hn : n ≤ most) : pathsGo most n (l.drop k) = pathsGo most (n + 1 + x.1.2.length) (l.drop (k + 1)) := by
  obtain ⟨hk, rfl⟩ := List.getElem?_eq_some_iff.1 hx
  rw [List.drop_eq_getElem_cons hk, pathsGo, if_pos hn]
theorem pathsGo_stop {most n : Nat} (l : List P20) (hn : ¬ n ≤ most) : pathsGo most n l = n := by
  cases l <;> simp [pathsGo, hn]
set_option maxRecDepth 100000 in
set_option maxHeartbeats 1000000 in
theorem pathsOf_any (v : Value) (l : List P20) (most : Nat) (hmo : most ≤ 1048576) (hll : l.length ≤ 1048576) (hlx : ∀ x ∈ l, x.1.2.length ≤ 1048576) (w : World) (he : ElemsAt w v l) :
    Calls Tryz.prog 20 #[v, .int .i64 (most : Int)] w fun e w' => e = .returned (.int .i64 (pathsGo most 0 l : Int)) ∧ Below w.heap.size w w' := by
  have hlv := fun W => elems_len he W
  have HE := Lib.hid he
  clear he
  go_enter Tryz.func20, Tryz.ntmps20
  go_wp2_with fail
  go_loopw [5, 6] (fun s i wr => ∃ k n : Nat, k ≤ l.length ∧ n ≤ 4194304 ∧ s = .int .i64 n ∧ i = .int .i64 k ∧ pathsGo most n (l.drop k) = pathsGo most 0 l ∧ Below w.heap.size w wr) (fun _ i _ => l.length - (intOf i).toNat)
  case atStart => exact ⟨0, 0, by omega, by omega, rfl, rfl, rfl, Below.refl _ _⟩
  case round =>
    obtain ⟨w1, rfl⟩ : ∃ w1 : World, w1 = wr := ⟨_, rfl⟩
    obtain ⟨k, n, hk, hn4, rfl, rfl, hgo, hw⟩ := hrel
    have HGO := Lib.hid hgo
    clear hgo
    by_cases hlt : k < l.length
    · by_cases hnm : n ≤ most
      · obtain ⟨x, hxk⟩ : ∃ x, l[k]? = some x := ⟨_, List.getElem?_eq_getElem hlt⟩
        obtain ⟨p, hadr, _, hld⟩ := elem_at (HE.out.below hw) k x hxk
        have hxl := hlx x (List.mem_of_getElem? hxk)
        have HLX := Lib.hid hld
        have HX := Lib.hid hxk
        have hls := str_len' x.1.2
        clear hld hxk
        go_wp2_with (first | (with_reducible refine Agg.wpList_loadL HLX.out rfl _ rfl rfl ?_))
        go_roundw
        case rel => exact ⟨k + 1, n + 1 + x.1.2.length, by omega, by omega, by go_num, by go_num, by rw [← pathsGo_drop HX.out hnm]; exact HGO.out, hw⟩
        case measure => simp [intOf]; omega
      · have hnm' : (most : Int) < (n : Int) := by omega
        have HR := Lib.hid ((pathsGo_stop (l.drop k) hnm).symm.trans HGO.out)
        go_wp2_with fail
        go_ret
        exact ⟨by rw [← HR.out]; rfl, hw⟩
    · obtain rfl : k = l.length := by omega
      have HR := Lib.hid (show n = pathsGo most 0 l from by
        have h := HGO.out
        rw [List.drop_length] at h
        exact h)
      go_wp2_with fail
      go_ret
      exact ⟨by rw [← HR.out]; rfl, hw⟩
end Go.Proofs.YtpnolgliklmnmaaGreat
/-! spencekit.LentBytes. -/
namespace Go.Proofs.YtpnolgliklmnmaaGreat
open Go.RowKit Pl Go.Agg
/-- a list with marks behind it, in its spare room -/
def Lent {α : Type} (E : Elem Tryz.prog α) (M : List α) (base : Nat) (w : World) (u : Value) (l : List α) : Prop :=
  ∃ g cap, u = .slice (some ⟨g, 0, none⟩) l.length cap ∧ base ≤ g ∧ l.length + M.length ≤ cap ∧ SliceOf E w (.slice (some ⟨g, 0, none⟩) (l.length + M.length) cap) (l ++ M)
/-- .. in a block of its own -/
def LentO {α : Type} (E : Elem Tryz.prog α) (M : List α) (base : Nat) (w : World) (u : Value) (l : List α) : Prop :=
  ∃ g cap, u = .slice (some ⟨g, 0, none⟩) l.length cap ∧ Own E base w (.slice (some ⟨g, 0, none⟩) (l.length + M.length) cap) (l ++ M)
theorem LentO.lent {α : Type} {E : Elem Tryz.prog α} {M l : List α} {base : Nat} {w : World} {u : Value} (h : LentO E M base w u l) (_hM : 0 < M.length) : Lent E M base w u l := by
  obtain ⟨g, cap, rfl, ho⟩ := h
  have hs := ho.slice
  obtain ⟨_, ⟨h, _⟩ | ⟨g', cap', cur, hv, hgb, hcur, hle, _⟩⟩ := ho
  · cases h
  · injection hv with h1 h2 h3
    injection h1 with h1
    injection h1 with h1
    subst h1 h3
    exact ⟨g, cap, rfl, hgb, by rw [← List.length_append]; exact hle, hs⟩
theorem LentO.of_own {α : Type} {E : Elem Tryz.prog α} {M l : List α} {base : Nat} {w : World} {v : Value} (h : Own E base w v (l ++ M)) (hM : 0 < M.length) : ∃ g cap, v = .slice (some ⟨g, 0, none⟩) (l.length + M.length) cap ∧ l.length + M.length ≤ cap ∧ LentO E M base w (.slice (some ⟨g, 0, none⟩) l.length cap) l := by
  have ho := h
  obtain ⟨hfl, ⟨rfl, h0⟩ | ⟨g, cap, cur, rfl, hgb, hcur, hle, _⟩⟩ := h
  · rw [List.length_append] at h0; omega
  · rw [List.length_append] at hle ho ⊢
    exact ⟨g, cap, rfl, hle, g, cap, rfl, ho⟩
theorem Lent.of_own {α : Type} {E : Elem Tryz.prog α} {M l : List α} {base : Nat} {w : World} {v : Value} (h : Own E base w v (l ++ M)) (hM : 0 < M.length) : ∃ g cap, v = .slice (some ⟨g, 0, none⟩) (l.length + M.length) cap ∧ l.length + M.length ≤ cap ∧ Lent E M base w (.slice (some ⟨g, 0, none⟩) l.length cap) l := by
  have hs := h.slice
  obtain ⟨hfl, ⟨rfl, h0⟩ | ⟨g, cap, cur, rfl, hgb, hcur, hle, _⟩⟩ := h
  · rw [List.length_append] at h0; omega
  · rw [List.length_append] at hs hle ⊢
    exact ⟨g, cap, rfl, hle, g, cap, rfl, hgb, hle, hs⟩
set_option maxRecDepth 100000 in
set_option maxHeartbeats 1000000 in
theorem lentBytes_own (v : Value) (b : List UInt8) (hb : b.length ≤ 1048576) (w : World) (he : BytesAt w v b) :
    Calls Tryz.prog 8 #[v] w fun e w' => ∃ u, e = .returned u ∧ Below w.heap.size w w' ∧ LentO EB (marks 1 12) w.heap.size w' u b := by
  have hlv := fun W => bytes_len he W
  have HE := Lib.hid he
  clear he
  have hc : b.length + 12 ≤ 1099511627776 / 8 := by omega
  go_enter Tryz.func8, Tryz.ntmps8
  go_wp2_with (first | (refine Agg.wpList_make0 (base := w.heap.size) EB rfl .i64 .i64 _ (b.length + 12) rfl rfl hc (by decide) (Nat.le_refl _) ?_; intro v1 w1 ho1 hx1) | (at_builtin; refine Agg.walk_stop ?_))
  refine ⟨?_, trivial⟩
  have h63 : ([] : List UInt8).length + b.length ≤ 1099511627776 / 8 := by simp; omega
  refine Agg.wpList_appendS (E := EB) rfl _ _ rfl v rfl rfl b ho1 (SliceOf.below HE.out hx1) h63 (by decide) hx1.size ?_
  intro v2 w2 ho2 hp2 _
  rw [List.nil_append] at ho2
  have hx2 := hx1.trans (hp2.below w.heap.size (Nat.le_refl _) hx1.size)
  simp only [Act.put, List.setIfInBounds_toArray, List.set_cons_succ, List.set_cons_zero]
  clear ho1 hp2 hx1
  go_wp2_with fail
  go_loopw [3, 4] (fun out i wr => ∃ k : Nat, k ≤ 12 ∧ i = .int .i64 k ∧ Own EB w.heap.size wr out (b ++ marks 1 k) ∧ Below w.heap.size w wr) (fun _ i _ => 12 - (intOf i).toNat)
  case atStart => exact ⟨0, by omega, rfl, by simpa [marks] using ho2, hx2⟩
  case round =>
    clear ho2 hx2
    obtain ⟨w3, rfl⟩ : ∃ w3 : World, w3 = wr := ⟨_, rfl⟩
    obtain ⟨k, hk, rfl, ho, hw⟩ := hrel
    have HO := Lib.hid ho
    have HW := Lib.hid hw
    clear ho hw
    by_cases hlt : k < 12
    · have h63 : (b ++ marks 1 k).length + 1 ≤ 1099511627776 / 8 := by rw [List.length_append, marks_length]; omega
      have hsz := HW.out.size
      go_wp2_with fail
      refine (markByte_any 1 k (by omega) (by omega) _).mono ?_
      rintro e w4 ⟨rfl, rfl⟩
      go_wp2_with (first | (refine Agg.wpList_push (E := EB) (base := w.heap.size) rfl rfl 19 rfl _ rfl _ rfl (mkB 1 k) rfl (fun _ => rfl) (by simp) HO.out h63 (by decide) hsz ?_; intro u5 v5 w5 ho5 hp5))
      rw [List.append_assoc, ← marks_succ] at ho5
      go_wp2_with fail
      go_roundw
      case rel => exact ⟨k + 1, by omega, by go_num, ho5, HW.out.trans (hp5.below w.heap.size (Nat.le_refl _) hsz)⟩
      case measure => simp [intOf]; omega
    · obtain rfl : k = 12 := by omega
      obtain ⟨g, cap, rfl, hcap, hlent⟩ := LentO.of_own HO.out (by rw [marks_length]; omega)
      rw [marks_length] at hcap
      have hcap2 : b.length ≤ cap := by omega
      have HLT := Lib.hid hlent
      clear hlent
      go_wp2_with fail
      go_ret
      exact ⟨_, rfl, HW.out, HLT.out⟩
theorem lentBytes_any (v : Value) (b : List UInt8) (hb : b.length ≤ 1048576) (w : World) (he : BytesAt w v b) :
    Calls Tryz.prog 8 #[v] w fun e w' => ∃ u, e = .returned u ∧ Below w.heap.size w w' ∧ Lent EB (marks 1 12) w.heap.size w' u b :=
  (lentBytes_own v b hb w he).mono fun _ _ ⟨u, he, hb, hl⟩ => ⟨u, he, hb, hl.lent (by rw [marks_length]; omega)⟩
end Go.Proofs.YtpnolgliklmnmaaGreat
