/- WireBack, proved. (Several texts in one.) -/
import Derived.Test.YtpnolgliklmnmaaReqG1
import Derived.Test.YtpnolgliklmnmaaReqG2
import Derived.Test.YtpnolgliklmnmaaReqG3
import Derived.Test.YtpnolgliklmnmaaPutB
import Derived.Test.YtpnolgliklmnmaaRepG
import Derived.Test.YtpnolgliklmnmaaGetB
import Derived.Test.YtpnolgliklmnmaaRight
import Derived.Test.YtpnolgliklmnmaaSameB
import Derived.Test.YtpnolgliklmnmaaWake2
import Derived.Test.YtpnolgliklmnmaaShelf
import Derived.JoinedCond
import Derived.OpenShut
import Derived.Shelf.Vars
import Derived.Test.YtpnolgliklmnmaaBytes
import Derived.Test.YtpnolgliklmnmaaRows
import Derived.Carry
import Derived.Deep.Slices
import Derived.Test.YtpnolgliklmnmaaEqual
import Derived.ProofKit
/-! wire.Get of any bytes. -/
namespace Go.Proofs.Ytpnolgliklmnmaa
open Go.RowKit Pl Go.Agg
theorem rget_any (v : Value) (b : List UInt8) (m : Int) (w : World) (hl : b.length ≤ 16777216) (hm : w.cell? ⟨0, 0, none⟩ = some (.int .i64 m)) (hb : BytesAt w v b) :
    Calls Try.prog 24 #[v] w fun e w' => ∃ vb, e = .returned (.tuple #[.agg (rqG (rqOut b).k (rqOut b).u (rqOut b).wh (rqOut b).nm vb (rqOut b).ph (rqOut b).pn (rqOut b).ch), .int .i64 (rqErr b : Int)]) ∧ Own EB w.heap.size w' vb (rqOut b).bs ∧ Below w.heap.size w w' := by
  rcases parts_cases ((sNum 10 (some b)).1 : Int) with h | h | h | h | h | h | h | h | h
  · exact rget_34 v b m h w hl hm hb
  · exact rget_32 v b m h w hl hm hb
  · exact rget_16 v b m h w hl hm hb
  · exact rget_1 v b m h w hl hm hb
  · exact rget_6 v b m h w hl hm hb
  · exact rget_2 v b m h w hl hm hb
  · exact rget_36 v b m h w hl hm hb
  · exact rget_8 v b m h w hl hm hb
  · exact rget_0 v b m h w hl hm hb
end Go.Proofs.Ytpnolgliklmnmaa
/-! wire.Get, Put, GetReply, PutReply: there and back, as the theorem asks it. -/
namespace Go.Proofs.Ytpnolgliklmnmaa
open Go.RowKit Pl Go.Agg
theorem rqOut_hash (b : List UInt8) : (rqOut b).ph.length = 20 ∧ (rqOut b).ch.length = 20 := by
  cases h : getRq b with
  | none => rw [(rqOut_none h).1]; exact ⟨rfl, rfl⟩
  | some q => rw [(rqOut_some h).1]; exact ⟨(put_get h).2.2.1, (put_get h).2.2.2⟩
theorem rq_back (b : List UInt8) : rqErr b = 4 ∨ (rqErr b = 0 ∧ rqCode (rqOut b) = 0 ∧ rqBytes (rqOut b) = b) := by
  cases h : getRq b with
  | none => exact .inl (rqOut_none h).2
  | some q =>
    refine .inr ⟨(rqOut_some h).2, ?_⟩
    rw [(rqOut_some h).1]
    obtain ⟨h1, h2, _⟩ := put_get h
    simp [rqCode, rqBytes, h1, h2]
theorem rq_got {q : Rq} (hr : q.right = true) (hp : q.ph.length = 20) (hc : q.ch.length = 20) : rqOut (putRq q) = q ∧ rqErr (putRq q) = 0 := rqOut_some (get_put hr hp hc)
theorem rq_less {q : Rq} (hr : q.right = true) (hp : q.ph.length = 20) (hc : q.ch.length = 20) {j : Nat} (hj : (putRq q).length = j + 1) : rqOut ((putRq q).take j) = Rq.zero ∧ rqErr ((putRq q).take j) = 4 := by
  refine rqOut_none (get_less hr hp hc (x := (putRq q).take j) (y := (putRq q).drop j) (fun h => ?_) (List.take_append_drop _ _).symm)
  have := congrArg List.length h
  simp only [List.length_drop, List.length_nil] at this
  omega
theorem rq_more {q : Rq} (hr : q.right = true) (hp : q.ph.length = 20) (hc : q.ch.length = 20) : rqOut (putRq q ++ [0]) = Rq.zero ∧ rqErr (putRq q ++ [0]) = 4 := rqOut_none (get_more hr hp hc (by simp))
theorem ite_le (c : Bool) (l : List UInt8) : (if c = true then l else []).length ≤ l.length := by split <;> simp
theorem encT_len (l : List UInt8) : (encT l).length = (encN l.length).length + l.length := by simp [encT]
theorem putRq_len {q : Rq} (hr : q.right = true) (hc : q.ch.length = 20) : (putRq q).length ≤ 5000 := by
  obtain ⟨h1, h2, h3, h4, h5⟩ := right_bounds (k := q.k) (u := q.u) (wh := q.wh) (nm := q.nm) (bs := q.bs) (ph := q.ph) (pn := q.pn) (ch := q.ch) hr
  have hpl := pathS_le (n := q.pn) q.ph
  have e1 := encN_len (n := q.k.toNat) (by omega)
  have e2 := encN_len (n := q.u.toNat) (by omega)
  have e3 := encN_len (n := q.wh.toNat) (by omega)
  have e4 := encN_len (n := q.nm.length) (by omega)
  have e5 := encN_len (n := q.bs.length) (by omega)
  have e6 := encN_len (n := (pathS q.ph q.pn).length) (by omega)
  have i1 := ite_le (hasN (partsN q.k) 1) (encN q.wh.toNat)
  have i2 := ite_le (hasN (partsN q.k) 2) (encT q.nm)
  have i3 := ite_le (hasN (partsN q.k) 12) (encT (pathS q.ph q.pn))
  have i4 := ite_le (hasN (partsN q.k) 16) q.ch
  have i5 := ite_le (hasN (partsN q.k) 32) (encT q.bs)
  rw [encT_len] at i2 i3 i5
  unfold putRq putP
  simp only [List.length_append]
  omega
theorem rpOut_hash (b : List UInt8) : (rpOut b).ph.length = 20 ∧ (rpOut b).ch.length = 20 := by
  cases h : getRp b with
  | none => rw [(rpOut_none h).1]; exact ⟨rfl, rfl⟩
  | some q => rw [(rpOut_some h).1]; exact ⟨(putRp_get h).2.2.1, (putRp_get h).2.2.2⟩
theorem rpOut_len (b : List UInt8) : (rpOut b).l.length ≤ 2000 := by
  cases h : getRp b with
  | none => rw [(rpOut_none h).1]; simp [Rp.zero]
  | some q => rw [(rpOut_some h).1]; exact (Rp.right_parts (putRp_get h).1).len
theorem rp_back (b : List UInt8) : rpErr b = 4 ∨ (rpErr b = 0 ∧ rpCode (rpOut b) = 0 ∧ rpBytes (rpOut b) = b) := by
  cases h : getRp b with
  | none => exact .inl (rpOut_none h).2
  | some q =>
    refine .inr ⟨(rpOut_some h).2, ?_⟩
    rw [(rpOut_some h).1]
    obtain ⟨h1, h2, _⟩ := putRp_get h
    simp [rpCode, rpBytes, h1, h2]
theorem rp_got {q : Rp} (hr : q.right = true) (hp : q.ph.length = 20) (hc : q.ch.length = 20) : rpOut (putRp q) = q ∧ rpErr (putRp q) = 0 := rpOut_some (getRp_put hr hp hc)
theorem rp_less {q : Rp} (hr : q.right = true) (hp : q.ph.length = 20) (hc : q.ch.length = 20) {j : Nat} (hj : (putRp q).length = j + 1) : rpOut ((putRp q).take j) = Rp.zero ∧ rpErr ((putRp q).take j) = 4 := by
  refine rpOut_none (getRp_less hr hp hc (x := (putRp q).take j) (y := (putRp q).drop j) (fun h => ?_) (List.take_append_drop _ _).symm)
  have := congrArg List.length h
  simp only [List.length_drop, List.length_nil] at this
  omega
theorem rp_more {q : Rp} (hr : q.right = true) (hp : q.ph.length = 20) (hc : q.ch.length = 20) : rpOut (putRp q ++ [0]) = Rp.zero ∧ rpErr (putRp q ++ [0]) = 4 := rpOut_none (getRp_more hr hp hc (by simp))
theorem putRp_len {q : Rp} (hr : q.right = true) (hc : q.ch.length = 20) : (putRp q).length ≤ 200000 := by
  obtain ⟨he, hg, hm, _, hl, _⟩ := Rp.right_parts hr
  obtain ⟨e, ph, pn, ch, g, l, m⟩ := q
  simp only at he hg hm hl hc
  obtain ⟨e, rfl⟩ : ∃ n : Nat, e = n := ⟨e.toNat, by omega⟩
  obtain ⟨g, rfl⟩ : ∃ n : Nat, g = n := ⟨g.toNat, by omega⟩
  obtain ⟨m, rfl⟩ : ∃ n : Nat, m = n := ⟨m.toNat, by omega⟩
  rw [← rpHead_eq, List.length_append]
  have h1 := rpHead_le (e := e) (g := g) (m := m) (n := l.length) (ph := ph) (pn := pn) (by omega) (by omega) (by omega) (by omega) hc
  have h2 := flatP_le l
  omega
theorem len_pos {l : List UInt8} (h : l ≠ []) : ∃ j, l.length = j + 1 := ⟨l.length - 1, by have := List.length_pos_iff.2 h; omega⟩
/-- Get, of bytes of which it is known what they are -/
theorem rget_of {b : List UInt8} {q : Rq} {c : Nat} (hq : rqOut b = q ∧ rqErr b = c) (v : Value) (m : Int) (w : World) (hl : b.length ≤ 16777216) (hm : w.cell? ⟨0, 0, none⟩ = some (.int .i64 m)) (hb : BytesAt w v b) :
    Calls Try.prog 24 #[v] w fun e w' => ∃ vb, e = .returned (.tuple #[.agg (rqG q.k q.u q.wh q.nm vb q.ph q.pn q.ch), .int .i64 (c : Int)]) ∧ Own EB w.heap.size w' vb q.bs ∧ Below w.heap.size w w' := by
  obtain ⟨rfl, rfl⟩ := hq
  exact rget_any v b m w hl hm hb
theorem rgetp_of {b : List UInt8} {q : Rp} {c : Nat} (hq : rpOut b = q ∧ rpErr b = c) (v : Value) (m : Int) (w : World) (hl : b.length ≤ 16777216) (hm : w.cell? ⟨0, 0, none⟩ = some (.int .i64 m)) (hb : BytesAt w v b) :
    Calls Try.prog 28 #[v] w fun e w' => ∃ pv, e = .returned (.tuple #[.agg (rpG q.e q.ph q.pn q.ch q.g pv q.m), .int .i64 (c : Int)]) ∧ Own E20 w.heap.size w' pv q.l ∧ Below w.heap.size w w' := by
  obtain ⟨rfl, rfl⟩ := hq
  exact rgetp_any v b m w hl hm hb
/-- Put, of a request of which it is known whether it is right -/
theorem rput_of {q : Rq} {c : Nat} {b : List UInt8} (hq : rqCode q = c ∧ rqBytes q = b) (vb : Value) (hl : q.ph.length = 20) (hc : q.ch.length = 20) (w : World) (hb : BytesAt w vb q.bs) :
    Calls Try.prog 22 #[.agg (rqG q.k q.u q.wh q.nm vb q.ph q.pn q.ch)] w fun e w' => ∃ v', e = .returned (.tuple #[v', .int .i64 (c : Int)]) ∧ Own EB w.heap.size w' v' b ∧ Below w.heap.size w w' := by
  obtain ⟨rfl, rfl⟩ := hq
  exact rput_any q.k q.u q.wh q.nm vb q.bs q.ph q.pn q.ch hl hc w hb
theorem pputr_of {q : Rp} {c : Nat} {b : List UInt8} (hq : rpCode q = c ∧ rpBytes q = b) (pv : Value) (hl : q.ph.length = 20) (hc : q.ch.length = 20) (hll : q.l.length ≤ 1048576) (w : World) (hb : ElemsAt w pv q.l) :
    Calls Try.prog 26 #[.agg (rpG q.e q.ph q.pn q.ch q.g pv q.m)] w fun e w' => ∃ v', e = .returned (.tuple #[v', .int .i64 (c : Int)]) ∧ Own EB w.heap.size w' v' b ∧ Below w.heap.size w w' := by
  obtain ⟨rfl, rfl⟩ := hq
  exact pputr_any q.e q.g q.m q.ph q.pn q.ch pv q.l hl hc hll w hb
end Go.Proofs.Ytpnolgliklmnmaa
/-! spencekit.SameRequest, SamePaths, SameReply, PathsOf. -/
namespace Go.Proofs.Ytpnolgliklmnmaa
open Go.RowKit Pl Go.Agg
def sameRq (p q : Rq) : Bool := (p.k == q.k) && ((p.u == q.u) && ((p.wh == q.wh) && ((p.nm == q.nm) && (decide (p.bs = q.bs) && ((p.ph == q.ph && p.pn == q.pn) && (p.ch == q.ch))))))
theorem sameRq_eq (p q : Rq) : sameRq p q = true ↔ p = q := by
  obtain ⟨a1, a2, a3, a4, a5, a6, a7, a8⟩ := p
  obtain ⟨b1, b2, b3, b4, b5, b6, b7, b8⟩ := q
  simp [sameRq, and_assoc]
def sameRp (p q : Rp) : Bool := (p.e == q.e) && ((p.ph == q.ph && p.pn == q.pn) && ((p.ch == q.ch) && ((p.g == q.g) && (decide (p.l = q.l) && (p.m == q.m)))))
theorem sameRp_eq (p q : Rp) : sameRp p q = true ↔ p = q := by
  obtain ⟨a1, a2, a3, a4, a5, a6, a7⟩ := p
  obtain ⟨b1, b2, b3, b4, b5, b6, b7⟩ := q
  simp [sameRp, and_assoc]
set_option maxRecDepth 100000 in
set_option maxHeartbeats 4000000 in
theorem sameRq_any (k u wh : Int) (nm : List UInt8) (vb : Value) (bs ph pn ch : List UInt8) (hl : ph.length = 20) (hc : ch.length = 20) (k' u' wh' : Int) (nm' : List UInt8) (vb' : Value) (bs' ph' pn' ch' : List UInt8) (hl' : ph'.length = 20) (hc' : ch'.length = 20) (h1m : bs.length ≤ 1048576) (h2m : bs'.length ≤ 1048576) (w : World) (hb : BytesAt w vb bs) (hb' : BytesAt w vb' bs') :
    Calls Try.prog 25 #[.agg (rqG k u wh nm vb ph pn ch), .agg (rqG k' u' wh' nm' vb' ph' pn' ch')] w fun e w' => e = .returned (.bool (sameRq ⟨k, u, wh, nm, bs, ph, pn, ch⟩ ⟨k', u', wh', nm', bs', ph', pn', ch'⟩)) ∧ Below w.heap.size w w' := by
  have hta := Agg.bytes_toList nm
  have htb := Agg.bytes_toList nm'
  have HY1 := Lib.hid hb
  have HY2 := Lib.hid hb'
  clear hb hb'
  obtain ⟨b6, h6⟩ : ∃ b, (ph == ph' && pn == pn') = b := ⟨_, rfl⟩
  obtain ⟨b7, h7⟩ : ∃ b, (ch == ch') = b := ⟨_, rfl⟩
  have HE6 := Lib.hid (fun W => (show (binOp .eql 44 (.agg (pC ph pn)) (.agg (pC ph' pn'))).run Try.prog W = .ok (.bool b6) W by rw [← h6]; exact eql_path ph pn ph' pn' hl hl' W))
  have HE7 := Lib.hid (fun W => (show (binOp .eql 42 (.agg (hC ch)) (.agg (hC ch'))).run Try.prog W = .ok (.bool b7) W by rw [← h7]; exact eql_hash ch ch' hc hc' W))
  have H6 := Lib.hid h6
  have H7 := Lib.hid h7
  clear h6 h7
  cases h1 : (k == k') with
  | false =>
    have HR := Lib.hid (show (sameRq ⟨k, u, wh, nm, bs, ph, pn, ch⟩ ⟨k', u', wh', nm', bs', ph', pn', ch'⟩) = false from by simp [sameRq, h1])
    go_enter Try.func25, Try.ntmps25
    go_wp2_with (first | (with_reducible refine Agg.wpList_box rfl 46 _ rfl (rqG k u wh nm vb ph pn ch) rfl ?_; intro g1 w1 hb1 hx1 hg1; have HB1 := Lib.hid hb1; have HX1 := Lib.hid hx1; clear hb1 hx1 hg1) | (with_reducible refine Agg.wpList_box rfl 46 _ rfl (rqG k' u' wh' nm' vb' ph' pn' ch') rfl ?_; intro g2 w2 hb2 hx2 hg2; have HL1 := Lib.hid (RqG.of_blk (HB1.out.below hx2) hl hc); have HL2 := Lib.hid (RqG.of_blk hb2 hl' hc'); have HW := Lib.hid (Agg.belowThen HX1.out (Nat.le_refl _) hx2); clear hb2 hx2 hg2) | (with_reducible refine Agg.wpList_loadL HL1.out.kind rfl _ rfl rfl ?_) | (with_reducible refine Agg.wpList_loadL HL2.out.kind rfl _ rfl rfl ?_))
    go_ret
    exact ⟨ret_bool HR.out.symm, HW.out⟩
  | true =>
  cases h2 : (u == u') with
  | false =>
    have HR := Lib.hid (show (sameRq ⟨k, u, wh, nm, bs, ph, pn, ch⟩ ⟨k', u', wh', nm', bs', ph', pn', ch'⟩) = false from by simp [sameRq, h2])
    go_enter Try.func25, Try.ntmps25
    go_wp2_with (first | (with_reducible refine Agg.wpList_box rfl 46 _ rfl (rqG k u wh nm vb ph pn ch) rfl ?_; intro g1 w1 hb1 hx1 hg1; have HB1 := Lib.hid hb1; have HX1 := Lib.hid hx1; clear hb1 hx1 hg1) | (with_reducible refine Agg.wpList_box rfl 46 _ rfl (rqG k' u' wh' nm' vb' ph' pn' ch') rfl ?_; intro g2 w2 hb2 hx2 hg2; have HL1 := Lib.hid (RqG.of_blk (HB1.out.below hx2) hl hc); have HL2 := Lib.hid (RqG.of_blk hb2 hl' hc'); have HW := Lib.hid (Agg.belowThen HX1.out (Nat.le_refl _) hx2); clear hb2 hx2 hg2) | (with_reducible refine Agg.wpList_loadL HL1.out.kind rfl _ rfl rfl ?_) | (with_reducible refine Agg.wpList_loadL HL2.out.kind rfl _ rfl rfl ?_) | (with_reducible refine Agg.wpList_loadL HL1.out.user rfl _ rfl rfl ?_) | (with_reducible refine Agg.wpList_loadL HL2.out.user rfl _ rfl rfl ?_))
    go_ret
    exact ⟨ret_bool HR.out.symm, HW.out⟩
  | true =>
  cases h3 : (wh == wh') with
  | false =>
    have HR := Lib.hid (show (sameRq ⟨k, u, wh, nm, bs, ph, pn, ch⟩ ⟨k', u', wh', nm', bs', ph', pn', ch'⟩) = false from by simp [sameRq, h3])
    go_enter Try.func25, Try.ntmps25
    go_wp2_with (first | (with_reducible refine Agg.wpList_box rfl 46 _ rfl (rqG k u wh nm vb ph pn ch) rfl ?_; intro g1 w1 hb1 hx1 hg1; have HB1 := Lib.hid hb1; have HX1 := Lib.hid hx1; clear hb1 hx1 hg1) | (with_reducible refine Agg.wpList_box rfl 46 _ rfl (rqG k' u' wh' nm' vb' ph' pn' ch') rfl ?_; intro g2 w2 hb2 hx2 hg2; have HL1 := Lib.hid (RqG.of_blk (HB1.out.below hx2) hl hc); have HL2 := Lib.hid (RqG.of_blk hb2 hl' hc'); have HW := Lib.hid (Agg.belowThen HX1.out (Nat.le_refl _) hx2); clear hb2 hx2 hg2) | (with_reducible refine Agg.wpList_loadL HL1.out.kind rfl _ rfl rfl ?_) | (with_reducible refine Agg.wpList_loadL HL2.out.kind rfl _ rfl rfl ?_) | (with_reducible refine Agg.wpList_loadL HL1.out.user rfl _ rfl rfl ?_) | (with_reducible refine Agg.wpList_loadL HL2.out.user rfl _ rfl rfl ?_) | (with_reducible refine Agg.wpList_loadL HL1.out.who rfl _ rfl rfl ?_) | (with_reducible refine Agg.wpList_loadL HL2.out.who rfl _ rfl rfl ?_))
    go_ret
    exact ⟨ret_bool HR.out.symm, HW.out⟩
  | true =>
  cases h4 : (nm == nm') with
  | false =>
    have HR := Lib.hid (show (sameRq ⟨k, u, wh, nm, bs, ph, pn, ch⟩ ⟨k', u', wh', nm', bs', ph', pn', ch'⟩) = false from by simp [sameRq, h4])
    go_enter Try.func25, Try.ntmps25
    go_wp2_with (first | (with_reducible refine Agg.wpList_box rfl 46 _ rfl (rqG k u wh nm vb ph pn ch) rfl ?_; intro g1 w1 hb1 hx1 hg1; have HB1 := Lib.hid hb1; have HX1 := Lib.hid hx1; clear hb1 hx1 hg1) | (with_reducible refine Agg.wpList_box rfl 46 _ rfl (rqG k' u' wh' nm' vb' ph' pn' ch') rfl ?_; intro g2 w2 hb2 hx2 hg2; have HL1 := Lib.hid (RqG.of_blk (HB1.out.below hx2) hl hc); have HL2 := Lib.hid (RqG.of_blk hb2 hl' hc'); have HW := Lib.hid (Agg.belowThen HX1.out (Nat.le_refl _) hx2); clear hb2 hx2 hg2) | (with_reducible refine Agg.wpList_loadL HL1.out.kind rfl _ rfl rfl ?_) | (with_reducible refine Agg.wpList_loadL HL2.out.kind rfl _ rfl rfl ?_) | (with_reducible refine Agg.wpList_loadL HL1.out.user rfl _ rfl rfl ?_) | (with_reducible refine Agg.wpList_loadL HL2.out.user rfl _ rfl rfl ?_) | (with_reducible refine Agg.wpList_loadL HL1.out.who rfl _ rfl rfl ?_) | (with_reducible refine Agg.wpList_loadL HL2.out.who rfl _ rfl rfl ?_) | (with_reducible refine Agg.wpList_loadL HL1.out.name rfl _ rfl rfl ?_) | (with_reducible refine Agg.wpList_loadL HL2.out.name rfl _ rfl rfl ?_))
    go_ret
    exact ⟨ret_bool HR.out.symm, HW.out⟩
  | true =>
  have HA := Lib.hid (show (sameRq ⟨k, u, wh, nm, bs, ph, pn, ch⟩ ⟨k', u', wh', nm', bs', ph', pn', ch'⟩) = (decide (bs = bs') && (b6 && b7)) from by simp only [sameRq, h1, h2, h3, h4, H6.out, H7.out, Bool.true_and])
  go_enter Try.func25, Try.ntmps25
  go_wp2_with (first | (with_reducible refine Agg.wpList_box rfl 46 _ rfl (rqG k u wh nm vb ph pn ch) rfl ?_; intro g1 w1 hb1 hx1 hg1; have HB1 := Lib.hid hb1; have HX1 := Lib.hid hx1; clear hb1 hx1 hg1) | (with_reducible refine Agg.wpList_box rfl 46 _ rfl (rqG k' u' wh' nm' vb' ph' pn' ch') rfl ?_; intro g2 w2 hb2 hx2 hg2; have HL1 := Lib.hid (RqG.of_blk (HB1.out.below hx2) hl hc); have HL2 := Lib.hid (RqG.of_blk hb2 hl' hc'); have HW := Lib.hid (Agg.belowThen HX1.out (Nat.le_refl _) hx2); clear hb2 hx2 hg2) | (with_reducible refine Agg.wpList_loadL HL1.out.kind rfl _ rfl rfl ?_) | (with_reducible refine Agg.wpList_loadL HL2.out.kind rfl _ rfl rfl ?_) | (with_reducible refine Agg.wpList_loadL HL1.out.user rfl _ rfl rfl ?_) | (with_reducible refine Agg.wpList_loadL HL2.out.user rfl _ rfl rfl ?_) | (with_reducible refine Agg.wpList_loadL HL1.out.who rfl _ rfl rfl ?_) | (with_reducible refine Agg.wpList_loadL HL2.out.who rfl _ rfl rfl ?_) | (with_reducible refine Agg.wpList_loadL HL1.out.name rfl _ rfl rfl ?_) | (with_reducible refine Agg.wpList_loadL HL2.out.name rfl _ rfl rfl ?_) | (with_reducible refine Agg.wpList_loadL HL1.out.bytes rfl _ rfl rfl ?_) | (with_reducible refine Agg.wpList_loadL HL2.out.bytes rfl _ rfl rfl ?_))
  refine (sameBytes_any vb vb' bs bs' h1m h2m _ (HY1.out.below HW.out) (HY2.out.below HW.out)).mono ?_
  rintro e w3 ⟨rfl, hx3⟩
  have HL1 := Lib.hid (HL1.out.below hx3)
  have HL2 := Lib.hid (HL2.out.below hx3)
  have HW3 := Lib.hid (Agg.belowThen HW.out (Nat.le_refl _) hx3)
  clear hx3
  cases h5 : decide (bs = bs') with
  | false =>
    have HR := Lib.hid (HA.out.trans (by simp [h5] : _ = false))
    clear h5
    go_wp2_with fail
    go_ret
    exact ⟨ret_bool HR.out.symm, HW3.out⟩
  | true =>
    have HA5 := Lib.hid (HA.out.trans (by rw [h5]; rfl : _ = (b6 && b7)))
    clear h5
    cases b6 with
    | false =>
      go_wp2_with (first | (with_reducible refine Agg.wpList_loadL HL1.out.path rfl _ rfl rfl ?_) | (with_reducible refine Agg.wpList_loadL HL2.out.path rfl _ rfl rfl ?_) | (with_reducible refine Agg.wpList_eqlw 44 44 _ _ rfl rfl (pC ph pn) (pC ph' pn') rfl rfl false (by kernel_rfl) HE6.out ?_))
      go_ret
      exact ⟨ret_bool HA5.out.symm, HW3.out⟩
    | true =>
      go_wp2_with (first | (with_reducible refine Agg.wpList_loadL HL1.out.path rfl _ rfl rfl ?_) | (with_reducible refine Agg.wpList_loadL HL2.out.path rfl _ rfl rfl ?_) | (with_reducible refine Agg.wpList_loadL HL1.out.cls rfl _ rfl rfl ?_) | (with_reducible refine Agg.wpList_loadL HL2.out.cls rfl _ rfl rfl ?_) | (with_reducible refine Agg.wpList_eqlw 44 44 _ _ rfl rfl (pC ph pn) (pC ph' pn') rfl rfl true (by kernel_rfl) HE6.out ?_) | (with_reducible refine Agg.wpList_eqlw 42 42 _ _ rfl rfl (hC ch) (hC ch') rfl rfl b7 (by kernel_rfl) HE7.out ?_))
      go_ret
      exact ⟨ret_bool HA5.out.symm, HW3.out⟩
theorem ne_atP {a b : List P20} {k : Nat} {x y : P20} (hx : a[k]? = some x) (hy : b[k]? = some y) (h : ¬ x = y) : a ≠ b := by
  rintro rfl
  rw [hx] at hy
  exact h (Option.some.inj hy)
theorem take_succP {a b : List P20} {k : Nat} {x y : P20} (hx : a[k]? = some x) (hy : b[k]? = some y) (ht : a.take k = b.take k) (h : x = y) : a.take (k + 1) = b.take (k + 1) := by
  rw [List.take_add_one, List.take_add_one, hx, hy, ht, h]
theorem ne_eqP {x y : P20} : (x.1.1 == y.1.1 && x.1.2 == y.1.2) = decide (x = y) := by
  obtain ⟨⟨a, b⟩, hx⟩ := x
  obtain ⟨⟨c, d⟩, hy⟩ := y
  by_cases h1 : a = c <;> by_cases h2 : b = d <;> simp [h1, h2]
set_option maxRecDepth 100000 in
set_option maxHeartbeats 1000000 in
theorem samePaths_any (v u : Value) (a b : List P20) (_ha : a.length ≤ 1048576) (hb : b.length ≤ 1048576) (w : World) (he : ElemsAt w v a) (hf : ElemsAt w u b) :
    Calls Try.prog 35 #[v, u] w fun e w' => e = .returned (.bool (decide (a = b))) ∧ Below w.heap.size w w' := by
  have hlv := fun W => elems_len he W
  have hlu := fun W => elems_len hf W
  have HE := Lib.hid he
  have HF := Lib.hid hf
  clear he hf
  by_cases hlen : a.length = b.length
  · have hne : ((a.length : Int) != (b.length : Int)) = false := by simp [hlen]
    have HLEN := Lib.hid hlen
    rw [hlen] at hlv hne
    clear hlen
    go_enter Try.func35, Try.ntmps35
    go_wp2_with fail
    go_loopw [5] (fun i wr => ∃ k : Nat, k ≤ b.length ∧ i = .int .i64 k ∧ a.take k = b.take k ∧ Below w.heap.size w wr) (fun i _ => b.length - (intOf i).toNat)
    case atStart => exact ⟨0, by omega, rfl, rfl, Below.refl _ _⟩
    case round =>
      obtain ⟨w1, rfl⟩ : ∃ w1 : World, w1 = wr := ⟨_, rfl⟩
      obtain ⟨k, hk, rfl, htk, hw⟩ := hrel
      have HTK := Lib.hid htk
      clear htk
      by_cases hlt : k < b.length
      · obtain ⟨y, hyk⟩ : ∃ y, b[k]? = some y := ⟨_, List.getElem?_eq_getElem hlt⟩
        obtain ⟨x, hxk⟩ : ∃ x, a[k]? = some x := ⟨_, List.getElem?_eq_getElem (by rw [HLEN.out]; exact hlt)⟩
        obtain ⟨p, hadr, hld, _⟩ := elem_at (HE.out.below hw) k x hxk
        obtain ⟨q, hadq, hlq, _⟩ := elem_at (HF.out.below hw) k y hyk
        have HLX := Lib.hid hld
        have HLY := Lib.hid hlq
        have HX := Lib.hid hxk
        have HY := Lib.hid hyk
        have HQ := Lib.hid (fun W => (show (binOp .neq 44 (.agg (pC x.1.1 x.1.2)) (.agg (pC y.1.1 y.1.2))).run Try.prog W = .ok (.bool (!(decide (x = y)))) W by rw [neq_path _ _ _ _ x.2 y.2, ne_eqP]))
        clear hld hlq hxk hyk
        by_cases hxy : x = y
        · have HXY := Lib.hid hxy
          have HD := Lib.hid (fun W => (HQ.out W).trans (by simp [hxy] : _ = .ok (.bool false) W))
          clear hxy
          go_wp2_with fail
          try simp only [Act.put, List.setIfInBounds_toArray, List.set_cons_succ, List.set_cons_zero]
          refine Agg.wp_region_later_lit (by kernel_rfl) (by kernel_rfl) ?_
          repeat (first | go_big_quiet_skip | ((first | (with_reducible refine Agg.wpQuiet_loadL HLX.out rfl _ rfl rfl ?_) | (with_reducible refine Agg.wpQuiet_loadL HLY.out rfl _ rfl rfl ?_) | (with_reducible refine Agg.wpQuiet_neq 44 44 _ _ rfl rfl (pC x.1.1 x.1.2) (pC y.1.1 y.1.2) rfl rfl (false) (by kernel_rfl) HD.out ?_)); simp only [Act.put, List.setIfInBounds_toArray, List.set_cons_succ, List.set_cons_zero]) | go_big_quiet_step (fail))
          refine wpQuiet_nil ?_
          intro _ hw'
          obtain ⟨x1, rfl⟩ := hw'
          go_wp2_with fail
          go_roundw
          case rel => exact ⟨k + 1, by omega, by go_num, take_succP HX.out HY.out HTK.out HXY.out, Agg.belowThen hw (Nat.le_refl _) x1.h⟩
          case measure => simp [intOf]; omega
        · have HXY := Lib.hid hxy
          have HD := Lib.hid (fun W => (HQ.out W).trans (by simp [hxy] : _ = .ok (.bool true) W))
          clear hxy
          go_wp2_with fail
          try simp only [Act.put, List.setIfInBounds_toArray, List.set_cons_succ, List.set_cons_zero]
          refine Agg.wp_region_later_lit (by kernel_rfl) (by kernel_rfl) ?_
          repeat (first | go_big_quiet_skip | ((first | (with_reducible refine Agg.wpQuiet_loadL HLX.out rfl _ rfl rfl ?_) | (with_reducible refine Agg.wpQuiet_loadL HLY.out rfl _ rfl rfl ?_) | (with_reducible refine Agg.wpQuiet_neq 44 44 _ _ rfl rfl (pC x.1.1 x.1.2) (pC y.1.1 y.1.2) rfl rfl (true) (by kernel_rfl) HD.out ?_)); simp only [Act.put, List.setIfInBounds_toArray, List.set_cons_succ, List.set_cons_zero]) | go_big_quiet_step (fail))
          refine wpQuiet_nil ?_
          intro _ hw'
          obtain ⟨x1, rfl⟩ := hw'
          have HR := Lib.hid (decide_eq_false (ne_atP HX.out HY.out HXY.out))
          go_wp2_with fail
          go_ret
          exact ⟨ret_bool HR.out.symm, Agg.belowThen hw (Nat.le_refl _) x1.h⟩
      · obtain rfl : k = b.length := by omega
        have HR := Lib.hid (show decide (a = b) = true from by
          have h := HTK.out
          rw [List.take_length, ← HLEN.out, List.take_length] at h
          simpa using h)
        go_wp2_with fail
        go_ret
        exact ⟨ret_bool HR.out.symm, hw⟩
  · have hne : ((a.length : Int) != (b.length : Int)) = true := by simp [bne_iff_ne]; omega
    have HR := Lib.hid (show decide (a = b) = false from by
      refine decide_eq_false fun h => hlen (by rw [h]))
    clear hlen
    go_enter Try.func35, Try.ntmps35
    go_wp2_with fail
    go_ret
    exact ⟨ret_bool HR.out.symm, Below.refl _ _⟩
set_option maxRecDepth 100000 in
set_option maxHeartbeats 4000000 in
theorem sameRp_any (e g m : Int) (ph pn ch : List UInt8) (pv : Value) (l : List P20) (hl : ph.length = 20) (hc : ch.length = 20) (e' g' m' : Int) (ph' pn' ch' : List UInt8) (pv' : Value) (l' : List P20) (hl' : ph'.length = 20) (hc' : ch'.length = 20) (h1m : l.length ≤ 1048576) (h2m : l'.length ≤ 1048576) (w : World) (hb : ElemsAt w pv l) (hb' : ElemsAt w pv' l') :
    Calls Try.prog 29 #[.agg (rpG e ph pn ch g pv m), .agg (rpG e' ph' pn' ch' g' pv' m')] w fun x w' => x = .returned (.bool (sameRp ⟨e, ph, pn, ch, g, l, m⟩ ⟨e', ph', pn', ch', g', l', m'⟩)) ∧ Below w.heap.size w w' := by
  have HY1 := Lib.hid hb
  have HY2 := Lib.hid hb'
  clear hb hb'
  obtain ⟨b2, h2⟩ : ∃ b, (ph == ph' && pn == pn') = b := ⟨_, rfl⟩
  obtain ⟨b3, h3⟩ : ∃ b, (ch == ch') = b := ⟨_, rfl⟩
  have HE2 := Lib.hid (fun W => (show (binOp .eql 44 (.agg (pC ph pn)) (.agg (pC ph' pn'))).run Try.prog W = .ok (.bool b2) W by rw [← h2]; exact eql_path ph pn ph' pn' hl hl' W))
  have HE3 := Lib.hid (fun W => (show (binOp .eql 42 (.agg (hC ch)) (.agg (hC ch'))).run Try.prog W = .ok (.bool b3) W by rw [← h3]; exact eql_hash ch ch' hc hc' W))
  have H2 := Lib.hid h2
  have H3 := Lib.hid h3
  clear h2 h3
  cases h1 : (e == e') with
  | false =>
    have HR := Lib.hid (show (sameRp ⟨e, ph, pn, ch, g, l, m⟩ ⟨e', ph', pn', ch', g', l', m'⟩) = false from by simp [sameRp, h1])
    go_enter Try.func29, Try.ntmps29
    go_wp2_with (first | (with_reducible refine Agg.wpList_box rfl 49 _ rfl (rpG e ph pn ch g pv m) rfl ?_; intro g1 w1 hb1 hx1 hg1; have HB1 := Lib.hid hb1; have HX1 := Lib.hid hx1; clear hb1 hx1 hg1) | (with_reducible refine Agg.wpList_box rfl 49 _ rfl (rpG e' ph' pn' ch' g' pv' m') rfl ?_; intro g2 w2 hb2 hx2 hg2; have HL1 := Lib.hid (RpG.of_blk (HB1.out.below hx2) hl hc); have HL2 := Lib.hid (RpG.of_blk hb2 hl' hc'); have HW := Lib.hid (Agg.belowThen HX1.out (Nat.le_refl _) hx2); clear hb2 hx2 hg2) | (with_reducible refine Agg.wpList_loadL HL1.out.err rfl _ rfl rfl ?_) | (with_reducible refine Agg.wpList_loadL HL2.out.err rfl _ rfl rfl ?_))
    go_ret
    exact ⟨ret_bool HR.out.symm, HW.out⟩
  | true =>
  cases b2 with
  | false =>
    have HR := Lib.hid (show (sameRp ⟨e, ph, pn, ch, g, l, m⟩ ⟨e', ph', pn', ch', g', l', m'⟩) = false from by simp only [sameRp, H2.out, Bool.false_and, Bool.and_false])
    go_enter Try.func29, Try.ntmps29
    go_wp2_with (first | (with_reducible refine Agg.wpList_box rfl 49 _ rfl (rpG e ph pn ch g pv m) rfl ?_; intro g1 w1 hb1 hx1 hg1; have HB1 := Lib.hid hb1; have HX1 := Lib.hid hx1; clear hb1 hx1 hg1) | (with_reducible refine Agg.wpList_box rfl 49 _ rfl (rpG e' ph' pn' ch' g' pv' m') rfl ?_; intro g2 w2 hb2 hx2 hg2; have HL1 := Lib.hid (RpG.of_blk (HB1.out.below hx2) hl hc); have HL2 := Lib.hid (RpG.of_blk hb2 hl' hc'); have HW := Lib.hid (Agg.belowThen HX1.out (Nat.le_refl _) hx2); clear hb2 hx2 hg2) | (with_reducible refine Agg.wpList_loadL HL1.out.err rfl _ rfl rfl ?_) | (with_reducible refine Agg.wpList_loadL HL2.out.err rfl _ rfl rfl ?_) | (with_reducible refine Agg.wpList_loadL HL1.out.path rfl _ rfl rfl ?_) | (with_reducible refine Agg.wpList_loadL HL2.out.path rfl _ rfl rfl ?_) | (with_reducible refine Agg.wpList_eqlw 44 44 _ _ rfl rfl (pC ph pn) (pC ph' pn') rfl rfl false (by kernel_rfl) HE2.out ?_))
    go_ret
    exact ⟨ret_bool HR.out.symm, HW.out⟩
  | true =>
  cases b3 with
  | false =>
    have HR := Lib.hid (show (sameRp ⟨e, ph, pn, ch, g, l, m⟩ ⟨e', ph', pn', ch', g', l', m'⟩) = false from by simp only [sameRp, H3.out, Bool.false_and, Bool.and_false])
    go_enter Try.func29, Try.ntmps29
    go_wp2_with (first | (with_reducible refine Agg.wpList_box rfl 49 _ rfl (rpG e ph pn ch g pv m) rfl ?_; intro g1 w1 hb1 hx1 hg1; have HB1 := Lib.hid hb1; have HX1 := Lib.hid hx1; clear hb1 hx1 hg1) | (with_reducible refine Agg.wpList_box rfl 49 _ rfl (rpG e' ph' pn' ch' g' pv' m') rfl ?_; intro g2 w2 hb2 hx2 hg2; have HL1 := Lib.hid (RpG.of_blk (HB1.out.below hx2) hl hc); have HL2 := Lib.hid (RpG.of_blk hb2 hl' hc'); have HW := Lib.hid (Agg.belowThen HX1.out (Nat.le_refl _) hx2); clear hb2 hx2 hg2) | (with_reducible refine Agg.wpList_loadL HL1.out.err rfl _ rfl rfl ?_) | (with_reducible refine Agg.wpList_loadL HL2.out.err rfl _ rfl rfl ?_) | (with_reducible refine Agg.wpList_loadL HL1.out.path rfl _ rfl rfl ?_) | (with_reducible refine Agg.wpList_loadL HL2.out.path rfl _ rfl rfl ?_) | (with_reducible refine Agg.wpList_loadL HL1.out.cls rfl _ rfl rfl ?_) | (with_reducible refine Agg.wpList_loadL HL2.out.cls rfl _ rfl rfl ?_) | (with_reducible refine Agg.wpList_eqlw 44 44 _ _ rfl rfl (pC ph pn) (pC ph' pn') rfl rfl true (by kernel_rfl) HE2.out ?_) | (with_reducible refine Agg.wpList_eqlw 42 42 _ _ rfl rfl (hC ch) (hC ch') rfl rfl false (by kernel_rfl) HE3.out ?_))
    go_ret
    exact ⟨ret_bool HR.out.symm, HW.out⟩
  | true =>
  cases h4 : (g == g') with
  | false =>
    have HR := Lib.hid (show (sameRp ⟨e, ph, pn, ch, g, l, m⟩ ⟨e', ph', pn', ch', g', l', m'⟩) = false from by simp [sameRp, h4])
    go_enter Try.func29, Try.ntmps29
    go_wp2_with (first | (with_reducible refine Agg.wpList_box rfl 49 _ rfl (rpG e ph pn ch g pv m) rfl ?_; intro g1 w1 hb1 hx1 hg1; have HB1 := Lib.hid hb1; have HX1 := Lib.hid hx1; clear hb1 hx1 hg1) | (with_reducible refine Agg.wpList_box rfl 49 _ rfl (rpG e' ph' pn' ch' g' pv' m') rfl ?_; intro g2 w2 hb2 hx2 hg2; have HL1 := Lib.hid (RpG.of_blk (HB1.out.below hx2) hl hc); have HL2 := Lib.hid (RpG.of_blk hb2 hl' hc'); have HW := Lib.hid (Agg.belowThen HX1.out (Nat.le_refl _) hx2); clear hb2 hx2 hg2) | (with_reducible refine Agg.wpList_loadL HL1.out.err rfl _ rfl rfl ?_) | (with_reducible refine Agg.wpList_loadL HL2.out.err rfl _ rfl rfl ?_) | (with_reducible refine Agg.wpList_loadL HL1.out.path rfl _ rfl rfl ?_) | (with_reducible refine Agg.wpList_loadL HL2.out.path rfl _ rfl rfl ?_) | (with_reducible refine Agg.wpList_loadL HL1.out.cls rfl _ rfl rfl ?_) | (with_reducible refine Agg.wpList_loadL HL2.out.cls rfl _ rfl rfl ?_) | (with_reducible refine Agg.wpList_loadL HL1.out.goal rfl _ rfl rfl ?_) | (with_reducible refine Agg.wpList_loadL HL2.out.goal rfl _ rfl rfl ?_) | (with_reducible refine Agg.wpList_eqlw 44 44 _ _ rfl rfl (pC ph pn) (pC ph' pn') rfl rfl true (by kernel_rfl) HE2.out ?_) | (with_reducible refine Agg.wpList_eqlw 42 42 _ _ rfl rfl (hC ch) (hC ch') rfl rfl true (by kernel_rfl) HE3.out ?_))
    go_ret
    exact ⟨ret_bool HR.out.symm, HW.out⟩
  | true =>
  have HA := Lib.hid (show (sameRp ⟨e, ph, pn, ch, g, l, m⟩ ⟨e', ph', pn', ch', g', l', m'⟩) = (decide (l = l') && (m == m')) from by simp only [sameRp, h1, H2.out, H3.out, h4, Bool.true_and])
  go_enter Try.func29, Try.ntmps29
  go_wp2_with (first | (with_reducible refine Agg.wpList_box rfl 49 _ rfl (rpG e ph pn ch g pv m) rfl ?_; intro g1 w1 hb1 hx1 hg1; have HB1 := Lib.hid hb1; have HX1 := Lib.hid hx1; clear hb1 hx1 hg1) | (with_reducible refine Agg.wpList_box rfl 49 _ rfl (rpG e' ph' pn' ch' g' pv' m') rfl ?_; intro g2 w2 hb2 hx2 hg2; have HL1 := Lib.hid (RpG.of_blk (HB1.out.below hx2) hl hc); have HL2 := Lib.hid (RpG.of_blk hb2 hl' hc'); have HW := Lib.hid (Agg.belowThen HX1.out (Nat.le_refl _) hx2); clear hb2 hx2 hg2) | (with_reducible refine Agg.wpList_loadL HL1.out.err rfl _ rfl rfl ?_) | (with_reducible refine Agg.wpList_loadL HL2.out.err rfl _ rfl rfl ?_) | (with_reducible refine Agg.wpList_loadL HL1.out.path rfl _ rfl rfl ?_) | (with_reducible refine Agg.wpList_loadL HL2.out.path rfl _ rfl rfl ?_) | (with_reducible refine Agg.wpList_loadL HL1.out.cls rfl _ rfl rfl ?_) | (with_reducible refine Agg.wpList_loadL HL2.out.cls rfl _ rfl rfl ?_) | (with_reducible refine Agg.wpList_loadL HL1.out.goal rfl _ rfl rfl ?_) | (with_reducible refine Agg.wpList_loadL HL2.out.goal rfl _ rfl rfl ?_) | (with_reducible refine Agg.wpList_loadL HL1.out.paths rfl _ rfl rfl ?_) | (with_reducible refine Agg.wpList_loadL HL2.out.paths rfl _ rfl rfl ?_) | (with_reducible refine Agg.wpList_eqlw 44 44 _ _ rfl rfl (pC ph pn) (pC ph' pn') rfl rfl true (by kernel_rfl) HE2.out ?_) | (with_reducible refine Agg.wpList_eqlw 42 42 _ _ rfl rfl (hC ch) (hC ch') rfl rfl true (by kernel_rfl) HE3.out ?_))
  refine (samePaths_any pv pv' l l' h1m h2m _ (HY1.out.below HW.out) (HY2.out.below HW.out)).mono ?_
  rintro x w3 ⟨rfl, hx3⟩
  have HL1 := Lib.hid (HL1.out.below hx3)
  have HL2 := Lib.hid (HL2.out.below hx3)
  have HW3 := Lib.hid (Agg.belowThen HW.out (Nat.le_refl _) hx3)
  clear hx3
  cases h5 : decide (l = l') with
  | false =>
    have HR := Lib.hid (HA.out.trans (by simp [h5] : _ = false))
    clear h5
    go_wp2_with fail
    go_ret
    exact ⟨ret_bool HR.out.symm, HW3.out⟩
  | true =>
    have HA5 := Lib.hid (HA.out.trans (by rw [h5]; rfl : _ = (m == m')))
    clear h5
    go_wp2_with (first | (with_reducible refine Agg.wpList_loadL HL1.out.many rfl _ rfl rfl ?_) | (with_reducible refine Agg.wpList_loadL HL2.out.many rfl _ rfl rfl ?_))
    go_ret
    exact ⟨ret_bool HA5.out.symm, HW3.out⟩
/-- how many they are, with their names' bytes; no more than just past most -/
def pathsGo (most : Nat) : Nat → List P20 → Nat
  | n, [] => n
  | n, x :: l => if n ≤ most then pathsGo most (n + 1 + x.1.2.length) l else n
theorem pathsGo_le {most : Nat} : ∀ {l : List P20} {n : Nat}, pathsGo most n l ≤ most → n + (l.map fun x => 1 + x.1.2.length).sum ≤ most
  | [], n, h => by simpa [pathsGo] using h
  | x :: l, n, h => by
    unfold pathsGo at h
    split at h
    · have := pathsGo_le h
      simp only [List.map_cons, List.sum_cons]
      omega
    · omega
theorem pathsGo_drop {most n k : Nat} {l : List P20} {x : P20} (hx : l[k]? = some x) (hn : n ≤ most) : pathsGo most n (l.drop k) = pathsGo most (n + 1 + x.1.2.length) (l.drop (k + 1)) := by
  obtain ⟨hk, rfl⟩ := List.getElem?_eq_some_iff.1 hx
  rw [List.drop_eq_getElem_cons hk, pathsGo, if_pos hn]
theorem pathsGo_stop {most n : Nat} (l : List P20) (hn : ¬ n ≤ most) : pathsGo most n l = n := by
  cases l <;> simp [pathsGo, hn]
set_option maxRecDepth 100000 in
set_option maxHeartbeats 1000000 in
theorem pathsOf_any (v : Value) (l : List P20) (most : Nat) (hmo : most ≤ 1048576) (hll : l.length ≤ 1048576) (hlx : ∀ x ∈ l, x.1.2.length ≤ 1048576) (w : World) (he : ElemsAt w v l) :
    Calls Try.prog 21 #[v, .int .i64 (most : Int)] w fun e w' => e = .returned (.int .i64 (pathsGo most 0 l : Int)) ∧ Below w.heap.size w w' := by
  have hlv := fun W => elems_len he W
  have HE := Lib.hid he
  clear he
  go_enter Try.func21, Try.ntmps21
  go_wp2_with fail
  go_loopw [5, 6] (fun s i wr => ∃ k n : Nat, k ≤ l.length ∧ n ≤ 4194304 ∧ s = .int .i64 n ∧ i = .int .i64 k ∧ pathsGo most n (l.drop k) = pathsGo most 0 l ∧ Below w.heap.size w wr) (fun _ i _ => l.length - (intOf i).toNat)
  case atStart => exact ⟨0, 0, by omega, by omega, rfl, rfl, rfl, Below.refl _ _⟩
  case round =>
    obtain ⟨w1, rfl⟩ : ∃ w1 : World, w1 = wr := ⟨_, rfl⟩
    obtain ⟨k, n, hk, hn4, rfl, rfl, hgo, hw⟩ := hrel
    have HGO := Lib.hid hgo
    clear hgo
    by_cases hlt : k < l.length
    · by_cases hnm : n ≤ most
      · obtain ⟨x, hxk⟩ : ∃ x, l[k]? = some x := ⟨_, List.getElem?_eq_getElem hlt⟩
        obtain ⟨p, hadr, _, hld⟩ := elem_at (HE.out.below hw) k x hxk
        have hxl := hlx x (List.mem_of_getElem? hxk)
        have HLX := Lib.hid hld
        have HX := Lib.hid hxk
        have hls := str_len' x.1.2
        clear hld hxk
        go_wp2_with (first | (with_reducible refine Agg.wpList_loadL HLX.out rfl _ rfl rfl ?_))
        go_roundw
        case rel => exact ⟨k + 1, n + 1 + x.1.2.length, by omega, by omega, by go_num, by go_num, by rw [← pathsGo_drop HX.out hnm]; exact HGO.out, hw⟩
        case measure => simp [intOf]; omega
      · have hnm' : (most : Int) < (n : Int) := by omega
        have HR := Lib.hid ((pathsGo_stop (l.drop k) hnm).symm.trans HGO.out)
        go_wp2_with fail
        go_ret
        exact ⟨by rw [← HR.out]; rfl, hw⟩
    · obtain rfl : k = l.length := by omega
      have HR := Lib.hid (show n = pathsGo most 0 l from by
        have h := HGO.out
        rw [List.drop_length] at h
        exact h)
      go_wp2_with fail
      go_ret
      exact ⟨by rw [← HR.out]; rfl, hw⟩
end Go.Proofs.Ytpnolgliklmnmaa
/-! spencelaw28.awake answers true. -/
namespace Go.Proofs.Ytpnolgliklmnmaa
open Go.RowKit Pl Go.Agg
theorem wake_framed : framed [[7, 2]] = [2, 7, 2] := by
  have : framed [[7, 2]] = encN 2 ++ [7, 2] := by simp [framed]
  rw [this, enc2]; rfl
theorem wake_frames : frames [2, 7, 2, 5, 1] = some ([[7, 2]], [5, 1]) := by
  have h := frames_append _ (framed [[7, 2]]) [5, 1] (Nat.le_refl _)
  rw [frames_framed [[7, 2]] (by simp), wake_framed] at h
  have h2 : frames [5, 1] = some ([], [5, 1]) := frames_end (b := [5, 1]) (by decide) (.inr (by decide))
  simpa [h2] using h
theorem only_below {S : Nat → Prop} {w0 w w' : World} (hb : Below w0.heap.size w0 w) (ho : Only S w w') (hS : ∀ b, S b → w0.heap.size ≤ b) : Below w0.heap.size w0 w' := hb.trans (ho.below (B := w0.heap.size) hb.size hS)
set_option maxRecDepth 100000 in
set_option maxHeartbeats 2000000 in
theorem awake28_any (w : World) : Calls Try.prog 8 #[] w fun e w' => e = .returned (.bool true) ∧ Below w.heap.size w w' := by
  go_enter Try.func8, Try.ntmps8
  go_wp2_with (first | (with_reducible refine Agg.wpList_build2 46 0 _ 1 _ rfl rfl (.int .i64 7) (.int .i64 2) rfl rfl (.agg rqC) build_rq ?_))
  refine (put7 w).mono ?_
  rintro e w1 ⟨v1, rfl, ho1, hx1⟩
  obtain ⟨s1, rfl⟩ : ∃ s : SV, v1 = s.1 := by
    obtain ⟨p, c, h⟩ := ho1.slice.form
    exact ⟨⟨v1, p, _, c, h⟩, rfl⟩
  have HO1 := Lib.hid ho1
  have HX1 := Lib.hid hx1
  have hsz1 := hx1.size
  clear ho1 hx1
  go_wp2_with (first | (refine Agg.wpList_slice1 (E := EBB) (base := w1.heap.size) rfl _ rfl s1 rfl (Nat.le_refl _) ?_; intro xs w2 hxs hx2; have HXS := Lib.hid hxs; have HX2 := Lib.hid hx2; clear hxs hx2))
  have hri : RowsIn w2 [s1] [[7, 2]] := ⟨rfl, fun k s l h1 h2 => by
    match k, h1, h2 with
    | 0, h1, h2 =>
      obtain rfl : s1 = s := by simpa using h1
      obtain rfl : [7, 2] = l := by simpa using h2
      exact (HO1.out.below HX2.out).slice⟩
  refine (frame_any xs [s1] [[7, 2]] w2 HXS.out.slice hri (by simp) (by rw [wake_framed]; simp) (by simp)).mono ?_
  rintro e w3 ⟨v3, rfl, ho3, hx3⟩
  rw [wake_framed] at ho3
  have h13 := Agg.belowThen HX2.out (Nat.le_refl _) hx3
  have HX3 := Lib.hid (Agg.belowThen HX1.out (Nat.le_refl _) h13)
  have HO3 := Lib.hid ho3
  have HB1 := Lib.hid (HO1.out.below h13).slice
  have hsz2 := HX2.out.size
  have hsz13 := h13.size
  have hk1 : ∀ k, s1.1.ownBlock = some k → k < w1.heap.size := fun k hk => by
    obtain ⟨_, cur, hc⟩ := HO1.out.block k hk
    exact Agg.heap_lt hc
  have HK1 := Lib.hid hk1
  have hk3 : ∀ k, v3.ownBlock = some k → w2.heap.size ≤ k := fun k hk => (HO3.out.block k hk).1
  have HK3 := Lib.hid hk3
  have h63 : [2, 7, 2].length + [(5 : UInt8), 1].length ≤ 1099511627776 / 8 := by simp
  clear ho3 hri h13 hx3 hk1 hk3
  go_wp2_with (first | (refine Agg.wpList_slice2O (E := EB) rfl _ _ rfl 5 1 rfl rfl ?_; intro x4 w4 hx4s _ hx4; have HX4S := Lib.hid hx4s; have HX4 := Lib.hid hx4; have HR4 := Lib.hid (RoomN.of_own (HO3.out.below hx4)); clear hx4s hx4) | (refine Agg.wpList_appendR (E := EB) rfl _ _ rfl x4 rfl rfl [5, 1] HR4.out HX4S.out h63 (by decide) ?_; intro v5 w5 hv5 hv35 ho5; have HV5 := Lib.hid hv5; have HV35 := Lib.hid hv35; have HO5 := Lib.hid ho5; clear hv5 hv35 ho5))
  have hx4 := HX4.out
  have hb5 : BytesAt w5 s1.1 [7, 2] := (HB1.out.below hx4).onlyS HO5.out fun b hb h => by
    have := HK1.out b hb
    have := HK3.out b h
    omega
  have HB5 := Lib.hid hb5
  have HX5 := Lib.hid (only_below (Agg.belowThen HX3.out (Nat.le_refl _) hx4) HO5.out fun b h => by
    have := HK3.out b h
    omega)
  clear hb5
  refine (frames_any v5 [2, 7, 2, 5, 1] w5 (by simp) HV5.out).mono ?_
  rintro e w6 ⟨hout, hx6⟩
  rcases hout with ⟨h, _⟩ | ⟨lv, rv, vs, ls, r, hf, rfl, hol, hro, hre⟩
  · rw [wake_frames] at h; cases h
  rw [wake_frames] at hf
  obtain ⟨rfl, rfl⟩ : [[7, 2]] = ls ∧ [5, 1] = r := by simpa using hf
  obtain ⟨t, rfl⟩ : ∃ t, vs = [t] := by
    have := hro.len
    match vs, this with
    | [t], _ => exact ⟨t, rfl⟩
  have HT := Lib.hid (hro.row 0 t [7, 2] rfl rfl).slice
  have hll := fun W => bb_len hol.slice W
  obtain ⟨q, hadr0, hld⟩ := bb_at hol.slice 0 t rfl
  have hadr : ∀ W, (Instr.indexAt 22 lv (.int .i64 0)).run Try.prog W = .ok (.pointer (some q)) W := hadr0
  have HLD := Lib.hid hld
  have HR := Lib.hid hre.slice
  have HF6 := Lib.hid (HV35.out.below hx6)
  have HB6 := Lib.hid (HB5.out.below hx6)
  have HX6 := Lib.hid (Agg.belowThen HX5.out (Nat.le_refl _) hx6)
  clear hf hol hro hre hld hadr0 hx6
  go_wp2_with (first | (refine wpList_slice3w rfl _ _ _ rfl 2 7 2 rfl rfl rfl ?_; intro x7 w7 hx7s hx7; have HX7S := Lib.hid hx7s; have HX7 := Lib.hid hx7; clear hx7s hx7))
  have hx7 := HX7.out
  refine (sameBytes_any v3 x7 [2, 7, 2] [2, 7, 2] (by simp) (by simp) w7 (HF6.out.below hx7) HX7S.out).mono ?_
  rintro e w8 ⟨rfl, hx8⟩
  have h68 := Agg.belowThen hx7 (Nat.le_refl _) hx8
  have HLD8 := Lib.hid (HLD.out.below h68)
  have HT8 := Lib.hid (HT.out.below h68)
  have HB8 := Lib.hid (HB6.out.below h68)
  have HR8 := Lib.hid (HR.out.below h68)
  have HX8 := Lib.hid (Agg.belowThen HX6.out (Nat.le_refl _) h68)
  have hd1 : decide ([2, 7, 2] = [(2 : UInt8), 7, 2]) = true := by decide
  rw [hd1]
  clear hx8 h68 hx7
  go_wp2_with (first | (with_reducible refine Agg.wpList_loadL HLD8.out rfl _ rfl rfl ?_))
  refine (sameBytes_any t.1 s1.1 [7, 2] [7, 2] (by simp) (by simp) w8 HT8.out HB8.out).mono ?_
  rintro e w9 ⟨rfl, hx9⟩
  have HR9 := Lib.hid (HR8.out.below hx9)
  have HX9 := Lib.hid (Agg.belowThen HX8.out (Nat.le_refl _) hx9)
  have hd2 : decide ([7, 2] = [(7 : UInt8), 2]) = true := by decide
  rw [hd2]
  clear hx9
  go_wp2_with (first | (refine Agg.wpList_slice2O (E := EB) rfl _ _ rfl 5 1 rfl rfl ?_; intro x10 w10 hx10s _ hx10; have HX10S := Lib.hid hx10s; have HX10 := Lib.hid hx10; clear hx10s hx10))
  have hx10 := HX10.out
  refine (sameBytes_any rv x10 [5, 1] [5, 1] (by simp) (by simp) w10 (HR9.out.below hx10) HX10S.out).mono ?_
  rintro e w11 ⟨rfl, hx11⟩
  have hd3 : decide ([5, 1] = [(5 : UInt8), 1]) = true := by decide
  rw [hd3]
  have HX11 := Lib.hid (Agg.belowThen HX9.out (Nat.le_refl _) (Agg.belowThen hx10 (Nat.le_refl _) hx11))
  clear hx11 hx10
  go_wp2_with fail
  go_ret
  exact ⟨rfl, HX11.out⟩
end Go.Proofs.Ytpnolgliklmnmaa
/-! spencelaw28.WireBack answers true. -/
namespace Go.Proofs.Ytpnolgliklmnmaa
open Go.RowKit Pl Go.Agg
theorem RqG.pname {w : World} {g : Nat} {k u wh : Int} {nm : List UInt8} {vb : Value} {ph pn ch : List UInt8} (h : Blk w g 46 (rqG k u wh nm vb ph pn ch)) (hl : ph.length = 20) : LoadsL Try.prog w 9 (some ⟨g, 25, none⟩) (.string ⟨pn.toArray⟩) :=
  h.one 25 (rqG_path hl 20 _ (pC_name ph pn hl)) Try.underlying9 rfl
theorem RpG.pname {w : World} {b : Nat} {e g m : Int} {pv : Value} {ph pn ch : List UInt8} (h : Blk w b 49 (rpG e ph pn ch g pv m)) (hl : ph.length = 20) : LoadsL Try.prog w 9 (some ⟨b, 21, none⟩) (.string ⟨pn.toArray⟩) :=
  h.one 21 (rpG_path 20 _ (pC_name ph pn hl)) Try.underlying9 rfl
theorem rget_bad {b : List UInt8} (hq : rqOut b = Rq.zero ∧ rqErr b = 4) (v : Value) (m : Int) (w : World) (hl : b.length ≤ 16777216) (hm : w.cell? ⟨0, 0, none⟩ = some (.int .i64 m)) (hb : BytesAt w v b) :
    Calls Try.prog 24 #[v] w fun e w' => ∃ vb, e = .returned (.tuple #[.agg (rqG 0 0 0 [] vb z20 [] z20), .int .i64 4]) ∧ Own EB w.heap.size w' vb [] ∧ Below w.heap.size w w' := rget_of hq v m w hl hm hb
theorem rgetp_bad {b : List UInt8} (hq : rpOut b = Rp.zero ∧ rpErr b = 4) (v : Value) (m : Int) (w : World) (hl : b.length ≤ 16777216) (hm : w.cell? ⟨0, 0, none⟩ = some (.int .i64 m)) (hb : BytesAt w v b) :
    Calls Try.prog 28 #[v] w fun e w' => ∃ pv, e = .returned (.tuple #[.agg (rpG 0 z20 [] z20 0 pv 0), .int .i64 4]) ∧ Own E20 w.heap.size w' pv [] ∧ Below w.heap.size w w' := rgetp_of hq v m w hl hm hb
set_option maxRecDepth 100000 in
set_option maxHeartbeats 16000000 in
theorem wireBack_any (k u wh : Int) (nm : List UInt8) (vb : Value) (bs ph pn ch : List UInt8) (hl : ph.length = 20) (hc : ch.length = 20) (e g mm : Int) (rph rpn rch : List UInt8) (pv : Value) (l : List P20) (hrl : rph.length = 20) (hrc : rch.length = 20) (v : Value) (b : List UInt8) (m0 : Int)
    (h1 : nm.length ≤ 1048576) (h2 : bs.length ≤ 1048576) (h3 : pn.length ≤ 1048576) (h4 : b.length ≤ 1048576) (h5 : rpn.length ≤ 1048576) (hll : l.length ≤ 1048576) (hlx : ∀ x ∈ l, x.1.2.length ≤ 1048576) (w : World) (hm : w.cell? ⟨0, 0, none⟩ = some (.int .i64 m0)) (hb : BytesAt w vb bs) (hp : ElemsAt w pv l) (hv : BytesAt w v b) :
    Calls Try.prog 5 #[.agg (rqG k u wh nm vb ph pn ch), .agg (rpG e rph rpn rch g pv mm), v] w fun x w' => x = .returned (.bool true) ∧ Below w.heap.size w w' := by
  have HM := Lib.hid hm
  have hbm := block_lt_of_cell hm
  have HB := Lib.hid hb
  have HP := Lib.hid hp
  have HV := Lib.hid hv
  have hlb := fun W => bytes_len hb W
  have hlv := fun W => bytes_len hv W
  have hln := str_len' nm
  have hlp := str_len' pn
  have hlr := str_len' rpn
  obtain ⟨q2, hq2⟩ : ∃ q, rqOut b = q := ⟨_, rfl⟩
  obtain ⟨e2, he2⟩ : ∃ q, rqErr b = q := ⟨_, rfl⟩
  obtain ⟨p2, hp2⟩ : ∃ q, rpOut b = q := ⟨_, rfl⟩
  obtain ⟨f2, hf2⟩ : ∃ q, rpErr b = q := ⟨_, rfl⟩
  have hh2 := rqOut_hash b
  have hi2 := rpOut_hash b
  have hc2 := rq_back b
  have hd2 := rp_back b
  have hll2 := rpOut_len b
  rw [hq2] at hh2 hc2
  rw [he2] at hc2
  rw [hp2] at hi2 hd2 hll2
  rw [hf2] at hd2
  obtain ⟨qc, hqc⟩ : ∃ x, rqCode q2 = x := ⟨_, rfl⟩
  obtain ⟨qb, hqb⟩ : ∃ x, rqBytes q2 = x := ⟨_, rfl⟩
  obtain ⟨pc2, hpc⟩ : ∃ x, rpCode p2 = x := ⟨_, rfl⟩
  obtain ⟨pb2, hpb⟩ : ∃ x, rpBytes p2 = x := ⟨_, rfl⟩
  rw [hqc, hqb] at hc2
  rw [hpc, hpb] at hd2
  have HQ2 := Lib.hid hq2
  have HE2 := Lib.hid he2
  have HP2 := Lib.hid hp2
  have HF2 := Lib.hid hf2
  have HH2 := Lib.hid hh2
  have HI2 := Lib.hid hi2
  have HC2 := Lib.hid hc2
  have HD2 := Lib.hid hd2
  have HLL := Lib.hid hll2
  have HQC := Lib.hid hqc
  have HQB := Lib.hid hqb
  have HPCO := Lib.hid hpc
  have HPB := Lib.hid hpb
  clear hm hb hp hv hq2 he2 hp2 hf2 hh2 hi2 hc2 hd2 hll2 hqc hqb hpc hpb
  go_enter Try.func5, Try.ntmps5
  go_wp2_with (first | (with_reducible refine Agg.wpList_box rfl 46 _ rfl (rqG k u wh nm vb ph pn ch) rfl ?_; intro gq w1 hb1 hx1 hg1; have HBQ1 := Lib.hid hb1; have HX1 := Lib.hid hx1; clear hb1 hx1 hg1) | (with_reducible refine Agg.wpList_box rfl 49 _ rfl (rpG e rph rpn rch g pv mm) rfl ?_; intro gs w2 hb2 hx2 hg2; have HBQ := Lib.hid (HBQ1.out.below hx2); have HBS := Lib.hid hb2; have K_w_w2 := Lib.hid (Agg.belowThen HX1.out (Nat.le_refl _) hx2); have K_w2_w2 := Lib.hid (Below.refl w2.heap.size w2); clear hb2 hx2 hg2))
  refine (awake28_any _).mono ?_
  rintro x w3 ⟨rfl, hx⟩
  have K_w_w3 := Lib.hid (Agg.belowThen K_w_w2.out (Nat.le_refl _) hx)
  have K_w2_w3 := Lib.hid (Agg.belowThen K_w2_w2.out (Nat.le_refl _) hx)
  clear hx HBQ1 HX1
  by_cases hsum : 6000 < bs.length + nm.length + pn.length + b.length + rpn.length
  · have hI : (6000 : Int) < (bs.length : Int) + (nm.length : Int) + (pn.length : Int) + (b.length : Int) + (rpn.length : Int) := by omega
    go_wp2_with (first | (with_reducible refine Agg.wpList_loadL (RqG.of_blk (HBQ.out.below K_w2_w3.out) hl hc).bytes rfl _ rfl rfl ?_) | (with_reducible refine Agg.wpList_loadL (RqG.of_blk (HBQ.out.below K_w2_w3.out) hl hc).name rfl _ rfl rfl ?_) | (with_reducible refine Agg.wpList_loadL (RqG.pname (HBQ.out.below K_w2_w3.out) hl) rfl _ rfl rfl ?_) | (with_reducible refine Agg.wpList_loadL (RpG.pname (HBS.out.below K_w2_w3.out) hrl) rfl _ rfl rfl ?_) | (with_reducible refine Agg.wpList_loadL (RpG.of_blk (HBS.out.below K_w2_w3.out) hrl hrc).paths rfl _ rfl rfl ?_))
    go_ret
    exact ⟨rfl, K_w_w3.out⟩
  have hI : ¬ (6000 : Int) < (bs.length : Int) + (nm.length : Int) + (pn.length : Int) + (b.length : Int) + (rpn.length : Int) := by omega
  go_wp2_with (first | (with_reducible refine Agg.wpList_loadL (RqG.of_blk (HBQ.out.below K_w2_w3.out) hl hc).bytes rfl _ rfl rfl ?_) | (with_reducible refine Agg.wpList_loadL (RqG.of_blk (HBQ.out.below K_w2_w3.out) hl hc).name rfl _ rfl rfl ?_) | (with_reducible refine Agg.wpList_loadL (RqG.pname (HBQ.out.below K_w2_w3.out) hl) rfl _ rfl rfl ?_) | (with_reducible refine Agg.wpList_loadL (RpG.pname (HBS.out.below K_w2_w3.out) hrl) rfl _ rfl rfl ?_) | (with_reducible refine Agg.wpList_loadL (RpG.of_blk (HBS.out.below K_w2_w3.out) hrl hrc).paths rfl _ rfl rfl ?_))
  refine (pathsOf_any pv l 6000 (by omega) hll hlx _ (HP.out.below K_w_w3.out)).mono ?_
  rintro x w4 ⟨rfl, hx⟩
  have K_w_w4 := Lib.hid (Agg.belowThen K_w_w3.out (Nat.le_refl _) hx)
  have K_w2_w4 := Lib.hid (Agg.belowThen K_w2_w3.out (Nat.le_refl _) hx)
  clear hx hI hsum
  obtain ⟨pg, hpg⟩ : ∃ x, pathsGo 6000 0 l = x := ⟨_, rfl⟩
  rw [hpg]
  clear hpg
  by_cases hpg6 : 6000 < pg
  · have hI : (6000 : Int) < (pg : Int) := by omega
    go_wp2_with fail
    go_ret
    exact ⟨rfl, K_w_w4.out⟩
  have hI : ¬ (6000 : Int) < (pg : Int) := by omega
  go_wp2_with (first | (with_reducible refine Agg.wpList_loadL (RqG.of_blk (HBQ.out.below K_w2_w4.out) hl hc).all rfl _ rfl rfl ?_))
  clear hI hpg6 hlb hln hlp hlr
  cases hq : (⟨k, u, wh, nm, bs, ph, pn, ch⟩ : Rq).right with
  | false =>
    have HRT := Lib.hid (fun W (h : BytesAt W vb bs) => (show Calls Try.prog 23 #[.agg (rqG k u wh nm vb ph pn ch)] W fun x w' => x = .returned (.bool false) ∧ Below W.heap.size W w' from by have := right_any k u wh nm vb bs ph pn ch hl hc W h; rwa [show rightN k u wh nm bs.length ph pn ch = _ from hq] at this))
    refine (rput_of (q := (⟨k, u, wh, nm, bs, ph, pn, ch⟩ : Rq)) (c := 2) (b := []) ⟨by simp [rqCode, hq], by simp [rqBytes, hq]⟩ vb hl hc _ (HB.out.below K_w_w4.out)).mono ?_
    rintro x w21 ⟨vx, rfl, hown, hx⟩
    have K_w_w21 := Lib.hid (Agg.belowThen K_w_w4.out (Nat.le_refl _) hx)
    have K_w2_w21 := Lib.hid (Agg.belowThen K_w2_w4.out (Nat.le_refl _) hx)
    have HVX := Lib.hid hown
    have K_w21_w21 := Lib.hid (Below.refl w21.heap.size w21)
    have HQ := Lib.hid hq
    clear hown hx hq
    go_wp2_with (first | (with_reducible refine Agg.wpList_loadL (RqG.of_blk (HBQ.out.below K_w2_w21.out) hl hc).all rfl _ rfl rfl ?_))
    refine (HRT.out _ (HB.out.below K_w_w21.out)).mono ?_
    rintro x w22 ⟨rfl, hx⟩
    have K_w_w22 := Lib.hid (Agg.belowThen K_w_w21.out (Nat.le_refl _) hx)
    have K_w2_w22 := Lib.hid (Agg.belowThen K_w2_w21.out (Nat.le_refl _) hx)
    have K_w21_w22 := Lib.hid (Agg.belowThen K_w21_w21.out (Nat.le_refl _) hx)
    clear hx
    go_wp2_with (first | (with_reducible refine Agg.wpList_loadL (RpG.of_blk (HBS.out.below K_w2_w22.out) hrl hrc).all rfl _ rfl rfl ?_))
    cases hs : (⟨e, rph, rpn, rch, g, l, mm⟩ : Rp).right with
    | false =>
      have HPRT := Lib.hid (fun W (h : ElemsAt W pv l) => (show Calls Try.prog 27 #[.agg (rpG e rph rpn rch g pv mm)] W fun x w' => x = .returned (.bool false) ∧ Below W.heap.size W w' from by have := rright_any e g mm rph rpn rch pv l hrl hrc hll W h; rwa [hs] at this))
      refine (pputr_of (q := (⟨e, rph, rpn, rch, g, l, mm⟩ : Rp)) (c := 2) (b := []) ⟨by simp [rpCode, hs], by simp [rpBytes, hs]⟩ pv hrl hrc hll _ (HP.out.below K_w_w22.out)).mono ?_
      rintro x w23 ⟨vx, rfl, hown, hx⟩
      have K_w_w23 := Lib.hid (Agg.belowThen K_w_w22.out (Nat.le_refl _) hx)
      have K_w2_w23 := Lib.hid (Agg.belowThen K_w2_w22.out (Nat.le_refl _) hx)
      have K_w21_w23 := Lib.hid (Agg.belowThen K_w21_w22.out (Nat.le_refl _) hx)
      have HVX := Lib.hid hown
      have K_w23_w23 := Lib.hid (Below.refl w23.heap.size w23)
      have HS := Lib.hid hs
      clear hown hx hs
      go_wp2_with (first | (with_reducible refine Agg.wpList_loadL (RpG.of_blk (HBS.out.below K_w2_w23.out) hrl hrc).all rfl _ rfl rfl ?_))
      refine (HPRT.out _ (HP.out.below K_w_w23.out)).mono ?_
      rintro x w24 ⟨rfl, hx⟩
      have K_w_w24 := Lib.hid (Agg.belowThen K_w_w23.out (Nat.le_refl _) hx)
      have K_w2_w24 := Lib.hid (Agg.belowThen K_w2_w23.out (Nat.le_refl _) hx)
      have K_w21_w24 := Lib.hid (Agg.belowThen K_w21_w23.out (Nat.le_refl _) hx)
      have K_w23_w24 := Lib.hid (Agg.belowThen K_w23_w23.out (Nat.le_refl _) hx)
      clear hx
      go_wp2_with fail
      obtain ⟨a1, a2, a3, a4, a5, a6, a7, a8⟩ := q2
      obtain ⟨c1, c2, c3, c4, c5, c6, c7⟩ := p2
      have HA6 := Lib.hid (show a6.length = 20 from HH2.out.1)
      have HA8 := Lib.hid (show a8.length = 20 from HH2.out.2)
      have HC2H := Lib.hid (show c2.length = 20 from HI2.out.1)
      have HC4H := Lib.hid (show c4.length = 20 from HI2.out.2)
      refine (rget_of ⟨HQ2.out, HE2.out⟩ v m0 _ (by omega) ((K_w_w24.out.cell (p := ⟨0, 0, none⟩) hbm).trans HM.out) (HV.out.below K_w_w24.out)).mono ?_
      rintro x w25 ⟨vc, rfl, hown, hx⟩
      have K_w_w25 := Lib.hid (Agg.belowThen K_w_w24.out (Nat.le_refl _) hx)
      have K_w2_w25 := Lib.hid (Agg.belowThen K_w2_w24.out (Nat.le_refl _) hx)
      have K_w21_w25 := Lib.hid (Agg.belowThen K_w21_w24.out (Nat.le_refl _) hx)
      have K_w23_w25 := Lib.hid (Agg.belowThen K_w23_w24.out (Nat.le_refl _) hx)
      have HVC := Lib.hid hown.slice
      have K_w25_w25 := Lib.hid (Below.refl w25.heap.size w25)
      clear hown hx
      go_wp2_with (first | (refine Agg.wpList_new rfl rfl rfl 46 22 169 rfl rfl rfl (by decide) (rqG 0 0 0 [] (.slice none 0 0) z20 [] z20) (rqG a1 a2 a3 a4 vc a6 a7 a8) rq_zero (by rw [rqG_size z20_length z20_length, rqG_size HA6.out HA8.out]) (rq_info HA6.out HA8.out) (rq_one HVC.out _ _ _ _ _ _ _) rfl (by first | (simp; done) | simp [Act.put]) ?_; intro g22 w26 hb hx hg; have HB22 := Lib.hid hb; have K_w_w26 := Lib.hid (Agg.belowThen K_w_w25.out (Nat.le_refl _) hx); have K_w2_w26 := Lib.hid (Agg.belowThen K_w2_w25.out (Nat.le_refl _) hx); have K_w21_w26 := Lib.hid (Agg.belowThen K_w21_w25.out (Nat.le_refl _) hx); have K_w23_w26 := Lib.hid (Agg.belowThen K_w23_w25.out (Nat.le_refl _) hx); have K_w25_w26 := Lib.hid (Agg.belowThen K_w25_w25.out (Nat.le_refl _) hx); clear hb hx hg))
      have K_w26_w26 := Lib.hid (Below.refl w26.heap.size w26)
      refine (rgetp_of ⟨HP2.out, HF2.out⟩ v m0 _ (by omega) ((K_w_w26.out.cell (p := ⟨0, 0, none⟩) hbm).trans HM.out) (HV.out.below K_w_w26.out)).mono ?_
      rintro x w27 ⟨pc, rfl, hown, hx⟩
      have K_w_w27 := Lib.hid (Agg.belowThen K_w_w26.out (Nat.le_refl _) hx)
      have K_w2_w27 := Lib.hid (Agg.belowThen K_w2_w26.out (Nat.le_refl _) hx)
      have K_w21_w27 := Lib.hid (Agg.belowThen K_w21_w26.out (Nat.le_refl _) hx)
      have K_w23_w27 := Lib.hid (Agg.belowThen K_w23_w26.out (Nat.le_refl _) hx)
      have K_w25_w27 := Lib.hid (Agg.belowThen K_w25_w26.out (Nat.le_refl _) hx)
      have K_w26_w27 := Lib.hid (Agg.belowThen K_w26_w26.out (Nat.le_refl _) hx)
      have HPC := Lib.hid hown.slice
      have K_w27_w27 := Lib.hid (Below.refl w27.heap.size w27)
      clear hown hx
      go_wp2_with (first | (refine Agg.wpList_new rfl rfl rfl 49 24 174 rfl rfl rfl (by decide) (rpG 0 z20 [] z20 0 (.slice none 0 0) 0) (rpG c1 c2 c3 c4 c5 pc c7) rp_zero (by rw [rpG_size z20_length z20_length, rpG_size HC2H.out HC4H.out]) (rp_info HC2H.out HC4H.out) (rp_one HPC.out _ _ _ _ _ _) rfl (by first | (simp; done) | simp [Act.put]) ?_; intro g24 w28 hb hx hg; have HB24 := Lib.hid hb; have K_w_w28 := Lib.hid (Agg.belowThen K_w_w27.out (Nat.le_refl _) hx); have K_w2_w28 := Lib.hid (Agg.belowThen K_w2_w27.out (Nat.le_refl _) hx); have K_w21_w28 := Lib.hid (Agg.belowThen K_w21_w27.out (Nat.le_refl _) hx); have K_w23_w28 := Lib.hid (Agg.belowThen K_w23_w27.out (Nat.le_refl _) hx); have K_w25_w28 := Lib.hid (Agg.belowThen K_w25_w27.out (Nat.le_refl _) hx); have K_w26_w28 := Lib.hid (Agg.belowThen K_w26_w27.out (Nat.le_refl _) hx); have K_w27_w28 := Lib.hid (Agg.belowThen K_w27_w27.out (Nat.le_refl _) hx); clear hb hx hg) | (with_reducible refine Agg.wpList_loadL (RqG.of_blk (HB22.out.below K_w26_w28.out) HA6.out HA8.out).all rfl _ rfl rfl ?_))
      have K_w28_w28 := Lib.hid (Below.refl w28.heap.size w28)
      refine (rput_of ⟨HQC.out, HQB.out⟩ vc HA6.out HA8.out _ (HVC.out.below K_w25_w28.out)).mono ?_
      rintro x w29 ⟨vz, rfl, hown, hx⟩
      have K_w_w29 := Lib.hid (Agg.belowThen K_w_w28.out (Nat.le_refl _) hx)
      have K_w2_w29 := Lib.hid (Agg.belowThen K_w2_w28.out (Nat.le_refl _) hx)
      have K_w21_w29 := Lib.hid (Agg.belowThen K_w21_w28.out (Nat.le_refl _) hx)
      have K_w23_w29 := Lib.hid (Agg.belowThen K_w23_w28.out (Nat.le_refl _) hx)
      have K_w25_w29 := Lib.hid (Agg.belowThen K_w25_w28.out (Nat.le_refl _) hx)
      have K_w26_w29 := Lib.hid (Agg.belowThen K_w26_w28.out (Nat.le_refl _) hx)
      have K_w27_w29 := Lib.hid (Agg.belowThen K_w27_w28.out (Nat.le_refl _) hx)
      have K_w28_w29 := Lib.hid (Agg.belowThen K_w28_w28.out (Nat.le_refl _) hx)
      have HVZ := Lib.hid hown.slice
      have K_w29_w29 := Lib.hid (Below.refl w29.heap.size w29)
      clear hown hx
      go_wp2_with (first | (with_reducible refine Agg.wpList_loadL (RpG.of_blk (HB24.out.below K_w28_w29.out) HC2H.out HC4H.out).all rfl _ rfl rfl ?_))
      refine (pputr_of ⟨HPCO.out, HPB.out⟩ pc HC2H.out HC4H.out (show c6.length ≤ 1048576 from by have h : c6.length ≤ 2000 := HLL.out; omega) _ (HPC.out.below K_w27_w29.out)).mono ?_
      rintro x w30 ⟨vy, rfl, hown, hx⟩
      have K_w_w30 := Lib.hid (Agg.belowThen K_w_w29.out (Nat.le_refl _) hx)
      have K_w2_w30 := Lib.hid (Agg.belowThen K_w2_w29.out (Nat.le_refl _) hx)
      have K_w21_w30 := Lib.hid (Agg.belowThen K_w21_w29.out (Nat.le_refl _) hx)
      have K_w23_w30 := Lib.hid (Agg.belowThen K_w23_w29.out (Nat.le_refl _) hx)
      have K_w25_w30 := Lib.hid (Agg.belowThen K_w25_w29.out (Nat.le_refl _) hx)
      have K_w26_w30 := Lib.hid (Agg.belowThen K_w26_w29.out (Nat.le_refl _) hx)
      have K_w27_w30 := Lib.hid (Agg.belowThen K_w27_w29.out (Nat.le_refl _) hx)
      have K_w28_w30 := Lib.hid (Agg.belowThen K_w28_w29.out (Nat.le_refl _) hx)
      have K_w29_w30 := Lib.hid (Agg.belowThen K_w29_w29.out (Nat.le_refl _) hx)
      have HVY := Lib.hid hown.slice
      have K_w30_w30 := Lib.hid (Below.refl w30.heap.size w30)
      clear hown hx
      rcases HC2.out with rfl | ⟨rfl, rfl, hqb⟩
      · rcases HD2.out with rfl | ⟨rfl, rfl, hpb⟩
        · go_wp2_with fail
          go_ret
          exact ⟨rfl, K_w_w30.out⟩
        · rw [hpb] at HVY
          clear hpb
          go_wp2_with fail
          refine (sameBytes_any vy v b b (by omega) (by omega) _ (HVY.out.below K_w30_w30.out) (HV.out.below K_w_w30.out)).mono ?_
          rintro x w31 ⟨rfl, hx⟩
          have K_w_w31 := Lib.hid (Agg.belowThen K_w_w30.out (Nat.le_refl _) hx)
          have K_w2_w31 := Lib.hid (Agg.belowThen K_w2_w30.out (Nat.le_refl _) hx)
          have K_w21_w31 := Lib.hid (Agg.belowThen K_w21_w30.out (Nat.le_refl _) hx)
          have K_w23_w31 := Lib.hid (Agg.belowThen K_w23_w30.out (Nat.le_refl _) hx)
          have K_w25_w31 := Lib.hid (Agg.belowThen K_w25_w30.out (Nat.le_refl _) hx)
          have K_w26_w31 := Lib.hid (Agg.belowThen K_w26_w30.out (Nat.le_refl _) hx)
          have K_w27_w31 := Lib.hid (Agg.belowThen K_w27_w30.out (Nat.le_refl _) hx)
          have K_w28_w31 := Lib.hid (Agg.belowThen K_w28_w30.out (Nat.le_refl _) hx)
          have K_w29_w31 := Lib.hid (Agg.belowThen K_w29_w30.out (Nat.le_refl _) hx)
          have K_w30_w31 := Lib.hid (Agg.belowThen K_w30_w30.out (Nat.le_refl _) hx)
          rw [show decide (b = b) = true from decide_eq_true rfl]
          clear hx
          go_wp2_with fail
          go_ret
          exact ⟨rfl, K_w_w31.out⟩
      · rw [hqb] at HVZ
        clear hqb
        rcases HD2.out with rfl | ⟨rfl, rfl, hpb⟩
        · go_wp2_with fail
          refine (sameBytes_any vz v b b (by omega) (by omega) _ (HVZ.out.below K_w29_w30.out) (HV.out.below K_w_w30.out)).mono ?_
          rintro x w32 ⟨rfl, hx⟩
          have K_w_w32 := Lib.hid (Agg.belowThen K_w_w30.out (Nat.le_refl _) hx)
          have K_w2_w32 := Lib.hid (Agg.belowThen K_w2_w30.out (Nat.le_refl _) hx)
          have K_w21_w32 := Lib.hid (Agg.belowThen K_w21_w30.out (Nat.le_refl _) hx)
          have K_w23_w32 := Lib.hid (Agg.belowThen K_w23_w30.out (Nat.le_refl _) hx)
          have K_w25_w32 := Lib.hid (Agg.belowThen K_w25_w30.out (Nat.le_refl _) hx)
          have K_w26_w32 := Lib.hid (Agg.belowThen K_w26_w30.out (Nat.le_refl _) hx)
          have K_w27_w32 := Lib.hid (Agg.belowThen K_w27_w30.out (Nat.le_refl _) hx)
          have K_w28_w32 := Lib.hid (Agg.belowThen K_w28_w30.out (Nat.le_refl _) hx)
          have K_w29_w32 := Lib.hid (Agg.belowThen K_w29_w30.out (Nat.le_refl _) hx)
          have K_w30_w32 := Lib.hid (Agg.belowThen K_w30_w30.out (Nat.le_refl _) hx)
          rw [show decide (b = b) = true from decide_eq_true rfl]
          clear hx
          go_wp2_with fail
          go_ret
          exact ⟨rfl, K_w_w32.out⟩
        · rw [hpb] at HVY
          clear hpb
          go_wp2_with fail
          refine (sameBytes_any vz v b b (by omega) (by omega) _ (HVZ.out.below K_w29_w30.out) (HV.out.below K_w_w30.out)).mono ?_
          rintro x w33 ⟨rfl, hx⟩
          have K_w_w33 := Lib.hid (Agg.belowThen K_w_w30.out (Nat.le_refl _) hx)
          have K_w2_w33 := Lib.hid (Agg.belowThen K_w2_w30.out (Nat.le_refl _) hx)
          have K_w21_w33 := Lib.hid (Agg.belowThen K_w21_w30.out (Nat.le_refl _) hx)
          have K_w23_w33 := Lib.hid (Agg.belowThen K_w23_w30.out (Nat.le_refl _) hx)
          have K_w25_w33 := Lib.hid (Agg.belowThen K_w25_w30.out (Nat.le_refl _) hx)
          have K_w26_w33 := Lib.hid (Agg.belowThen K_w26_w30.out (Nat.le_refl _) hx)
          have K_w27_w33 := Lib.hid (Agg.belowThen K_w27_w30.out (Nat.le_refl _) hx)
          have K_w28_w33 := Lib.hid (Agg.belowThen K_w28_w30.out (Nat.le_refl _) hx)
          have K_w29_w33 := Lib.hid (Agg.belowThen K_w29_w30.out (Nat.le_refl _) hx)
          have K_w30_w33 := Lib.hid (Agg.belowThen K_w30_w30.out (Nat.le_refl _) hx)
          rw [show decide (b = b) = true from decide_eq_true rfl]
          clear hx
          go_wp2_with fail
          refine (sameBytes_any vy v b b (by omega) (by omega) _ (HVY.out.below K_w30_w33.out) (HV.out.below K_w_w33.out)).mono ?_
          rintro x w34 ⟨rfl, hx⟩
          have K_w_w34 := Lib.hid (Agg.belowThen K_w_w33.out (Nat.le_refl _) hx)
          have K_w2_w34 := Lib.hid (Agg.belowThen K_w2_w33.out (Nat.le_refl _) hx)
          have K_w21_w34 := Lib.hid (Agg.belowThen K_w21_w33.out (Nat.le_refl _) hx)
          have K_w23_w34 := Lib.hid (Agg.belowThen K_w23_w33.out (Nat.le_refl _) hx)
          have K_w25_w34 := Lib.hid (Agg.belowThen K_w25_w33.out (Nat.le_refl _) hx)
          have K_w26_w34 := Lib.hid (Agg.belowThen K_w26_w33.out (Nat.le_refl _) hx)
          have K_w27_w34 := Lib.hid (Agg.belowThen K_w27_w33.out (Nat.le_refl _) hx)
          have K_w28_w34 := Lib.hid (Agg.belowThen K_w28_w33.out (Nat.le_refl _) hx)
          have K_w29_w34 := Lib.hid (Agg.belowThen K_w29_w33.out (Nat.le_refl _) hx)
          have K_w30_w34 := Lib.hid (Agg.belowThen K_w30_w33.out (Nat.le_refl _) hx)
          rw [show decide (b = b) = true from decide_eq_true rfl]
          clear hx
          go_wp2_with fail
          go_ret
          exact ⟨rfl, K_w_w34.out⟩
    | true =>
      have HPRT := Lib.hid (fun W (h : ElemsAt W pv l) => (show Calls Try.prog 27 #[.agg (rpG e rph rpn rch g pv mm)] W fun x w' => x = .returned (.bool true) ∧ Below W.heap.size W w' from by have := rright_any e g mm rph rpn rch pv l hrl hrc hll W h; rwa [hs] at this))
      refine (pputr_of (q := (⟨e, rph, rpn, rch, g, l, mm⟩ : Rp)) (c := 0) (b := (putRp (⟨e, rph, rpn, rch, g, l, mm⟩ : Rp))) ⟨by simp [rpCode, hs], by simp [rpBytes, hs]⟩ pv hrl hrc hll _ (HP.out.below K_w_w22.out)).mono ?_
      rintro x w35 ⟨vx, rfl, hown, hx⟩
      have K_w_w35 := Lib.hid (Agg.belowThen K_w_w22.out (Nat.le_refl _) hx)
      have K_w2_w35 := Lib.hid (Agg.belowThen K_w2_w22.out (Nat.le_refl _) hx)
      have K_w21_w35 := Lib.hid (Agg.belowThen K_w21_w22.out (Nat.le_refl _) hx)
      have HVX := Lib.hid hown
      have K_w35_w35 := Lib.hid (Below.refl w35.heap.size w35)
      have HS := Lib.hid hs
      clear hown hx hs
      go_wp2_with (first | (with_reducible refine Agg.wpList_loadL (RpG.of_blk (HBS.out.below K_w2_w35.out) hrl hrc).all rfl _ rfl rfl ?_))
      refine (HPRT.out _ (HP.out.below K_w_w35.out)).mono ?_
      rintro x w36 ⟨rfl, hx⟩
      have K_w_w36 := Lib.hid (Agg.belowThen K_w_w35.out (Nat.le_refl _) hx)
      have K_w2_w36 := Lib.hid (Agg.belowThen K_w2_w35.out (Nat.le_refl _) hx)
      have K_w21_w36 := Lib.hid (Agg.belowThen K_w21_w35.out (Nat.le_refl _) hx)
      have K_w35_w36 := Lib.hid (Agg.belowThen K_w35_w35.out (Nat.le_refl _) hx)
      clear hx
      obtain ⟨j, hj⟩ := len_pos (putRp_pos (⟨e, rph, rpn, rch, g, l, mm⟩ : Rp))
      have hj5 := putRp_len HS.out hrc
      obtain ⟨n, hn⟩ : ∃ n, (putRp (⟨e, rph, rpn, rch, g, l, mm⟩ : Rp)).length = n := ⟨_, rfl⟩
      rw [hn] at hj5
      have hnj : n = j + 1 := hn.symm.trans hj
      have hlx2 := fun W => (bytes_len HVX.out.slice W).trans (by rw [hn] : _ = .ok (.int .i64 (n : Int)) W)
      obtain ⟨px, cx, hfx⟩ := HVX.out.slice.form
      have hcx := HVX.out.cap _ _ _ hfx
      obtain ⟨vj, hvj⟩ : ∃ x, x = Value.slice px j cx := ⟨_, rfl⟩
      have hsl : ∀ W, (Instr.sliceAt 23 vx none (some (.int .i64 ((n : Int) - 1))) none).run Try.prog W = .ok vj W := fun W => by rw [show ((n : Int) - 1) = (j : Int) by omega, hfx, hvj]; exact runHigh px _ cx j (by omega) W
      have HVJ := Lib.hid (show BytesAt w35 vj ((putRp (⟨e, rph, rpn, rch, g, l, mm⟩ : Rp)).take j) from by rw [hvj]; exact sliceOf_taken (by rw [← hfx]; exact HVX.out.slice) j (by omega))
      have HJ := Lib.hid hj
      have HN := Lib.hid hn
      clear hfx hvj hj hn hnj hcx
      go_wp2_with fail
      refine (rgetp_of (rp_got HS.out hrl hrc) vx m0 _ (by rw [HN.out]; omega) ((K_w_w36.out.cell (p := ⟨0, 0, none⟩) hbm).trans HM.out) (HVX.out.slice.below K_w35_w36.out)).mono ?_
      rintro x w37 ⟨vg, rfl, hown, hx⟩
      have K_w_w37 := Lib.hid (Agg.belowThen K_w_w36.out (Nat.le_refl _) hx)
      have K_w2_w37 := Lib.hid (Agg.belowThen K_w2_w36.out (Nat.le_refl _) hx)
      have K_w21_w37 := Lib.hid (Agg.belowThen K_w21_w36.out (Nat.le_refl _) hx)
      have K_w35_w37 := Lib.hid (Agg.belowThen K_w35_w36.out (Nat.le_refl _) hx)
      have HVG := Lib.hid hown.slice
      have K_w37_w37 := Lib.hid (Below.refl w37.heap.size w37)
      clear hown hx
      go_wp2_with (first | (refine Agg.wpList_new rfl rfl rfl 49 16 130 rfl rfl rfl (by decide) (rpG 0 z20 [] z20 0 (.slice none 0 0) 0) (rpG e rph rpn rch g vg mm) rp_zero (by rw [rpG_size z20_length z20_length, rpG_size hrl hrc]) (rp_info hrl hrc) (rp_one HVG.out _ _ _ _ _ _) rfl (by first | (simp; done) | simp [Act.put]) ?_; intro g16 w38 hb hx hg; have HB16 := Lib.hid hb; have K_w_w38 := Lib.hid (Agg.belowThen K_w_w37.out (Nat.le_refl _) hx); have K_w2_w38 := Lib.hid (Agg.belowThen K_w2_w37.out (Nat.le_refl _) hx); have K_w21_w38 := Lib.hid (Agg.belowThen K_w21_w37.out (Nat.le_refl _) hx); have K_w35_w38 := Lib.hid (Agg.belowThen K_w35_w37.out (Nat.le_refl _) hx); have K_w37_w38 := Lib.hid (Agg.belowThen K_w37_w37.out (Nat.le_refl _) hx); clear hb hx hg))
      have K_w38_w38 := Lib.hid (Below.refl w38.heap.size w38)
      refine (rgetp_bad (rp_less HS.out hrl hrc HJ.out) vj m0 _ (by simp [HN.out]; omega) ((K_w_w38.out.cell (p := ⟨0, 0, none⟩) hbm).trans HM.out) (HVJ.out.below K_w35_w38.out)).mono ?_
      rintro x w39 ⟨vl, rfl, hown, hx⟩
      have K_w_w39 := Lib.hid (Agg.belowThen K_w_w38.out (Nat.le_refl _) hx)
      have K_w2_w39 := Lib.hid (Agg.belowThen K_w2_w38.out (Nat.le_refl _) hx)
      have K_w21_w39 := Lib.hid (Agg.belowThen K_w21_w38.out (Nat.le_refl _) hx)
      have K_w35_w39 := Lib.hid (Agg.belowThen K_w35_w38.out (Nat.le_refl _) hx)
      have K_w37_w39 := Lib.hid (Agg.belowThen K_w37_w38.out (Nat.le_refl _) hx)
      have K_w38_w39 := Lib.hid (Agg.belowThen K_w38_w38.out (Nat.le_refl _) hx)
      have HVL := Lib.hid hown.slice
      have K_w39_w39 := Lib.hid (Below.refl w39.heap.size w39)
      clear hown hx
      go_wp2_with (first | (refine Agg.wpList_new rfl rfl rfl 49 18 139 rfl rfl rfl (by decide) (rpG 0 z20 [] z20 0 (.slice none 0 0) 0) (rpG 0 z20 [] z20 0 vl 0) rp_zero (by rw [rpG_size z20_length z20_length, rpG_size z20_length z20_length]) (rp_info z20_length z20_length) (rp_one HVL.out _ _ _ _ _ _) rfl (by first | (simp; done) | simp [Act.put]) ?_; intro g18 w40 hb hx hg; have K_w_w40 := Lib.hid (Agg.belowThen K_w_w39.out (Nat.le_refl _) hx); have K_w2_w40 := Lib.hid (Agg.belowThen K_w2_w39.out (Nat.le_refl _) hx); have K_w21_w40 := Lib.hid (Agg.belowThen K_w21_w39.out (Nat.le_refl _) hx); have K_w35_w40 := Lib.hid (Agg.belowThen K_w35_w39.out (Nat.le_refl _) hx); have K_w37_w40 := Lib.hid (Agg.belowThen K_w37_w39.out (Nat.le_refl _) hx); have K_w38_w40 := Lib.hid (Agg.belowThen K_w38_w39.out (Nat.le_refl _) hx); have K_w39_w40 := Lib.hid (Agg.belowThen K_w39_w39.out (Nat.le_refl _) hx); clear hb hx hg) | (refine Agg.wpList_slice0 (base := w40.heap.size) EB rfl rfl (Nat.le_refl _) ?_; intro ve w41 ho hx hne; have HVE := Lib.hid ho; have hsz0 := hx.size; have K_w_w41 := Lib.hid (Agg.belowThen K_w_w40.out (Nat.le_refl _) hx); have K_w2_w41 := Lib.hid (Agg.belowThen K_w2_w40.out (Nat.le_refl _) hx); have K_w21_w41 := Lib.hid (Agg.belowThen K_w21_w40.out (Nat.le_refl _) hx); have K_w35_w41 := Lib.hid (Agg.belowThen K_w35_w40.out (Nat.le_refl _) hx); have K_w37_w41 := Lib.hid (Agg.belowThen K_w37_w40.out (Nat.le_refl _) hx); have K_w38_w41 := Lib.hid (Agg.belowThen K_w38_w40.out (Nat.le_refl _) hx); have K_w39_w41 := Lib.hid (Agg.belowThen K_w39_w40.out (Nat.le_refl _) hx); have HXE := Lib.hid hx; clear ho hx hne) | (refine Agg.wpList_appendS (E := EB) (base := w40.heap.size) rfl _ _ rfl vx rfl rfl (putRp (⟨e, rph, rpn, rch, g, l, mm⟩ : Rp)) HVE.out (HVX.out.slice.below K_w35_w41.out) (by simp [HN.out]; omega) (by decide) hsz0 ?_; intro va1 w42 ho hp hne; have HVA1 := Lib.hid ho; have HXA := Lib.hid (HXE.out.trans (hp.below w40.heap.size (Nat.le_refl _) hsz0)); have hsz1 := HXA.out.size; clear ho hp hne) | (refine Agg.wpList_push (E := EB) (base := w40.heap.size) rfl rfl 145 rfl _ rfl _ rfl (0 : UInt8) rfl (fun _ => rfl) (by simp [Act.put]) HVA1.out (by simp [HN.out]; omega) (by decide) hsz1 ?_; intro ub va2 w43 ho hp; have HVA2 := Lib.hid ho; have hx := HXA.out.trans (hp.below w40.heap.size (Nat.le_refl _) hsz1); have K_w_w43 := Lib.hid (Agg.belowThen K_w_w40.out (Nat.le_refl _) hx); have K_w2_w43 := Lib.hid (Agg.belowThen K_w2_w40.out (Nat.le_refl _) hx); have K_w21_w43 := Lib.hid (Agg.belowThen K_w21_w40.out (Nat.le_refl _) hx); have K_w35_w43 := Lib.hid (Agg.belowThen K_w35_w40.out (Nat.le_refl _) hx); have K_w37_w43 := Lib.hid (Agg.belowThen K_w37_w40.out (Nat.le_refl _) hx); have K_w38_w43 := Lib.hid (Agg.belowThen K_w38_w40.out (Nat.le_refl _) hx); have K_w39_w43 := Lib.hid (Agg.belowThen K_w39_w40.out (Nat.le_refl _) hx); clear ho hp hx))
      have K_w43_w43 := Lib.hid (Below.refl w43.heap.size w43)
      refine (rgetp_bad (rp_more HS.out hrl hrc) va2 m0 _ (by simp [HN.out]; omega) ((K_w_w43.out.cell (p := ⟨0, 0, none⟩) hbm).trans HM.out) HVA2.out.slice).mono ?_
      rintro x w44 ⟨vm, rfl, hown, hx⟩
      have K_w_w44 := Lib.hid (Agg.belowThen K_w_w43.out (Nat.le_refl _) hx)
      have K_w2_w44 := Lib.hid (Agg.belowThen K_w2_w43.out (Nat.le_refl _) hx)
      have K_w21_w44 := Lib.hid (Agg.belowThen K_w21_w43.out (Nat.le_refl _) hx)
      have K_w35_w44 := Lib.hid (Agg.belowThen K_w35_w43.out (Nat.le_refl _) hx)
      have K_w37_w44 := Lib.hid (Agg.belowThen K_w37_w43.out (Nat.le_refl _) hx)
      have K_w38_w44 := Lib.hid (Agg.belowThen K_w38_w43.out (Nat.le_refl _) hx)
      have K_w39_w44 := Lib.hid (Agg.belowThen K_w39_w43.out (Nat.le_refl _) hx)
      have K_w43_w44 := Lib.hid (Agg.belowThen K_w43_w43.out (Nat.le_refl _) hx)
      have HVMM := Lib.hid hown.slice
      have K_w44_w44 := Lib.hid (Below.refl w44.heap.size w44)
      clear hown hx
      go_wp2_with (first | (refine Agg.wpList_new rfl rfl rfl 49 20 148 rfl rfl rfl (by decide) (rpG 0 z20 [] z20 0 (.slice none 0 0) 0) (rpG 0 z20 [] z20 0 vm 0) rp_zero (by rw [rpG_size z20_length z20_length, rpG_size z20_length z20_length]) (rp_info z20_length z20_length) (rp_one HVMM.out _ _ _ _ _ _) rfl (by first | (simp; done) | simp [Act.put]) ?_; intro g20 w45 hb hx hg; have K_w_w45 := Lib.hid (Agg.belowThen K_w_w44.out (Nat.le_refl _) hx); have K_w2_w45 := Lib.hid (Agg.belowThen K_w2_w44.out (Nat.le_refl _) hx); have K_w21_w45 := Lib.hid (Agg.belowThen K_w21_w44.out (Nat.le_refl _) hx); have K_w35_w45 := Lib.hid (Agg.belowThen K_w35_w44.out (Nat.le_refl _) hx); have K_w37_w45 := Lib.hid (Agg.belowThen K_w37_w44.out (Nat.le_refl _) hx); have K_w38_w45 := Lib.hid (Agg.belowThen K_w38_w44.out (Nat.le_refl _) hx); have K_w39_w45 := Lib.hid (Agg.belowThen K_w39_w44.out (Nat.le_refl _) hx); have K_w43_w45 := Lib.hid (Agg.belowThen K_w43_w44.out (Nat.le_refl _) hx); have K_w44_w45 := Lib.hid (Agg.belowThen K_w44_w44.out (Nat.le_refl _) hx); clear hb hx hg) | (with_reducible refine Agg.wpList_loadL (RpG.of_blk (HB16.out.below K_w38_w45.out) hrl hrc).all rfl _ rfl rfl ?_) | (with_reducible refine Agg.wpList_loadL (RpG.of_blk (HBS.out.below K_w2_w45.out) hrl hrc).all rfl _ rfl rfl ?_))
      refine (sameRp_any e g mm rph rpn rch vg l hrl hrc e g mm rph rpn rch pv l hrl hrc hll hll _ (HVG.out.below K_w37_w45.out) (HP.out.below K_w_w45.out)).mono ?_
      rintro x w46 ⟨rfl, hx⟩
      have K_w_w46 := Lib.hid (Agg.belowThen K_w_w45.out (Nat.le_refl _) hx)
      have K_w2_w46 := Lib.hid (Agg.belowThen K_w2_w45.out (Nat.le_refl _) hx)
      have K_w21_w46 := Lib.hid (Agg.belowThen K_w21_w45.out (Nat.le_refl _) hx)
      have K_w35_w46 := Lib.hid (Agg.belowThen K_w35_w45.out (Nat.le_refl _) hx)
      have K_w37_w46 := Lib.hid (Agg.belowThen K_w37_w45.out (Nat.le_refl _) hx)
      have K_w38_w46 := Lib.hid (Agg.belowThen K_w38_w45.out (Nat.le_refl _) hx)
      have K_w39_w46 := Lib.hid (Agg.belowThen K_w39_w45.out (Nat.le_refl _) hx)
      have K_w43_w46 := Lib.hid (Agg.belowThen K_w43_w45.out (Nat.le_refl _) hx)
      have K_w44_w46 := Lib.hid (Agg.belowThen K_w44_w45.out (Nat.le_refl _) hx)
      rw [(sameRp_eq _ _).2 rfl]
      clear hx hsl
      go_wp2_with fail
      obtain ⟨a1, a2, a3, a4, a5, a6, a7, a8⟩ := q2
      obtain ⟨c1, c2, c3, c4, c5, c6, c7⟩ := p2
      have HA6 := Lib.hid (show a6.length = 20 from HH2.out.1)
      have HA8 := Lib.hid (show a8.length = 20 from HH2.out.2)
      have HC2H := Lib.hid (show c2.length = 20 from HI2.out.1)
      have HC4H := Lib.hid (show c4.length = 20 from HI2.out.2)
      refine (rget_of ⟨HQ2.out, HE2.out⟩ v m0 _ (by omega) ((K_w_w46.out.cell (p := ⟨0, 0, none⟩) hbm).trans HM.out) (HV.out.below K_w_w46.out)).mono ?_
      rintro x w47 ⟨vc, rfl, hown, hx⟩
      have K_w_w47 := Lib.hid (Agg.belowThen K_w_w46.out (Nat.le_refl _) hx)
      have K_w2_w47 := Lib.hid (Agg.belowThen K_w2_w46.out (Nat.le_refl _) hx)
      have K_w21_w47 := Lib.hid (Agg.belowThen K_w21_w46.out (Nat.le_refl _) hx)
      have K_w35_w47 := Lib.hid (Agg.belowThen K_w35_w46.out (Nat.le_refl _) hx)
      have K_w37_w47 := Lib.hid (Agg.belowThen K_w37_w46.out (Nat.le_refl _) hx)
      have K_w38_w47 := Lib.hid (Agg.belowThen K_w38_w46.out (Nat.le_refl _) hx)
      have K_w39_w47 := Lib.hid (Agg.belowThen K_w39_w46.out (Nat.le_refl _) hx)
      have K_w43_w47 := Lib.hid (Agg.belowThen K_w43_w46.out (Nat.le_refl _) hx)
      have K_w44_w47 := Lib.hid (Agg.belowThen K_w44_w46.out (Nat.le_refl _) hx)
      have HVC := Lib.hid hown.slice
      have K_w47_w47 := Lib.hid (Below.refl w47.heap.size w47)
      clear hown hx
      go_wp2_with (first | (refine Agg.wpList_new rfl rfl rfl 46 22 169 rfl rfl rfl (by decide) (rqG 0 0 0 [] (.slice none 0 0) z20 [] z20) (rqG a1 a2 a3 a4 vc a6 a7 a8) rq_zero (by rw [rqG_size z20_length z20_length, rqG_size HA6.out HA8.out]) (rq_info HA6.out HA8.out) (rq_one HVC.out _ _ _ _ _ _ _) rfl (by first | (simp; done) | simp [Act.put]) ?_; intro g22 w48 hb hx hg; have HB22 := Lib.hid hb; have K_w_w48 := Lib.hid (Agg.belowThen K_w_w47.out (Nat.le_refl _) hx); have K_w2_w48 := Lib.hid (Agg.belowThen K_w2_w47.out (Nat.le_refl _) hx); have K_w21_w48 := Lib.hid (Agg.belowThen K_w21_w47.out (Nat.le_refl _) hx); have K_w35_w48 := Lib.hid (Agg.belowThen K_w35_w47.out (Nat.le_refl _) hx); have K_w37_w48 := Lib.hid (Agg.belowThen K_w37_w47.out (Nat.le_refl _) hx); have K_w38_w48 := Lib.hid (Agg.belowThen K_w38_w47.out (Nat.le_refl _) hx); have K_w39_w48 := Lib.hid (Agg.belowThen K_w39_w47.out (Nat.le_refl _) hx); have K_w43_w48 := Lib.hid (Agg.belowThen K_w43_w47.out (Nat.le_refl _) hx); have K_w44_w48 := Lib.hid (Agg.belowThen K_w44_w47.out (Nat.le_refl _) hx); have K_w47_w48 := Lib.hid (Agg.belowThen K_w47_w47.out (Nat.le_refl _) hx); clear hb hx hg))
      have K_w48_w48 := Lib.hid (Below.refl w48.heap.size w48)
      refine (rgetp_of ⟨HP2.out, HF2.out⟩ v m0 _ (by omega) ((K_w_w48.out.cell (p := ⟨0, 0, none⟩) hbm).trans HM.out) (HV.out.below K_w_w48.out)).mono ?_
      rintro x w49 ⟨pc, rfl, hown, hx⟩
      have K_w_w49 := Lib.hid (Agg.belowThen K_w_w48.out (Nat.le_refl _) hx)
      have K_w2_w49 := Lib.hid (Agg.belowThen K_w2_w48.out (Nat.le_refl _) hx)
      have K_w21_w49 := Lib.hid (Agg.belowThen K_w21_w48.out (Nat.le_refl _) hx)
      have K_w35_w49 := Lib.hid (Agg.belowThen K_w35_w48.out (Nat.le_refl _) hx)
      have K_w37_w49 := Lib.hid (Agg.belowThen K_w37_w48.out (Nat.le_refl _) hx)
      have K_w38_w49 := Lib.hid (Agg.belowThen K_w38_w48.out (Nat.le_refl _) hx)
      have K_w39_w49 := Lib.hid (Agg.belowThen K_w39_w48.out (Nat.le_refl _) hx)
      have K_w43_w49 := Lib.hid (Agg.belowThen K_w43_w48.out (Nat.le_refl _) hx)
      have K_w44_w49 := Lib.hid (Agg.belowThen K_w44_w48.out (Nat.le_refl _) hx)
      have K_w47_w49 := Lib.hid (Agg.belowThen K_w47_w48.out (Nat.le_refl _) hx)
      have K_w48_w49 := Lib.hid (Agg.belowThen K_w48_w48.out (Nat.le_refl _) hx)
      have HPC := Lib.hid hown.slice
      have K_w49_w49 := Lib.hid (Below.refl w49.heap.size w49)
      clear hown hx
      go_wp2_with (first | (refine Agg.wpList_new rfl rfl rfl 49 24 174 rfl rfl rfl (by decide) (rpG 0 z20 [] z20 0 (.slice none 0 0) 0) (rpG c1 c2 c3 c4 c5 pc c7) rp_zero (by rw [rpG_size z20_length z20_length, rpG_size HC2H.out HC4H.out]) (rp_info HC2H.out HC4H.out) (rp_one HPC.out _ _ _ _ _ _) rfl (by first | (simp; done) | simp [Act.put]) ?_; intro g24 w50 hb hx hg; have HB24 := Lib.hid hb; have K_w_w50 := Lib.hid (Agg.belowThen K_w_w49.out (Nat.le_refl _) hx); have K_w2_w50 := Lib.hid (Agg.belowThen K_w2_w49.out (Nat.le_refl _) hx); have K_w21_w50 := Lib.hid (Agg.belowThen K_w21_w49.out (Nat.le_refl _) hx); have K_w35_w50 := Lib.hid (Agg.belowThen K_w35_w49.out (Nat.le_refl _) hx); have K_w37_w50 := Lib.hid (Agg.belowThen K_w37_w49.out (Nat.le_refl _) hx); have K_w38_w50 := Lib.hid (Agg.belowThen K_w38_w49.out (Nat.le_refl _) hx); have K_w39_w50 := Lib.hid (Agg.belowThen K_w39_w49.out (Nat.le_refl _) hx); have K_w43_w50 := Lib.hid (Agg.belowThen K_w43_w49.out (Nat.le_refl _) hx); have K_w44_w50 := Lib.hid (Agg.belowThen K_w44_w49.out (Nat.le_refl _) hx); have K_w47_w50 := Lib.hid (Agg.belowThen K_w47_w49.out (Nat.le_refl _) hx); have K_w48_w50 := Lib.hid (Agg.belowThen K_w48_w49.out (Nat.le_refl _) hx); have K_w49_w50 := Lib.hid (Agg.belowThen K_w49_w49.out (Nat.le_refl _) hx); clear hb hx hg) | (with_reducible refine Agg.wpList_loadL (RqG.of_blk (HB22.out.below K_w48_w50.out) HA6.out HA8.out).all rfl _ rfl rfl ?_))
      have K_w50_w50 := Lib.hid (Below.refl w50.heap.size w50)
      refine (rput_of ⟨HQC.out, HQB.out⟩ vc HA6.out HA8.out _ (HVC.out.below K_w47_w50.out)).mono ?_
      rintro x w51 ⟨vz, rfl, hown, hx⟩
      have K_w_w51 := Lib.hid (Agg.belowThen K_w_w50.out (Nat.le_refl _) hx)
      have K_w2_w51 := Lib.hid (Agg.belowThen K_w2_w50.out (Nat.le_refl _) hx)
      have K_w21_w51 := Lib.hid (Agg.belowThen K_w21_w50.out (Nat.le_refl _) hx)
      have K_w35_w51 := Lib.hid (Agg.belowThen K_w35_w50.out (Nat.le_refl _) hx)
      have K_w37_w51 := Lib.hid (Agg.belowThen K_w37_w50.out (Nat.le_refl _) hx)
      have K_w38_w51 := Lib.hid (Agg.belowThen K_w38_w50.out (Nat.le_refl _) hx)
      have K_w39_w51 := Lib.hid (Agg.belowThen K_w39_w50.out (Nat.le_refl _) hx)
      have K_w43_w51 := Lib.hid (Agg.belowThen K_w43_w50.out (Nat.le_refl _) hx)
      have K_w44_w51 := Lib.hid (Agg.belowThen K_w44_w50.out (Nat.le_refl _) hx)
      have K_w47_w51 := Lib.hid (Agg.belowThen K_w47_w50.out (Nat.le_refl _) hx)
      have K_w48_w51 := Lib.hid (Agg.belowThen K_w48_w50.out (Nat.le_refl _) hx)
      have K_w49_w51 := Lib.hid (Agg.belowThen K_w49_w50.out (Nat.le_refl _) hx)
      have K_w50_w51 := Lib.hid (Agg.belowThen K_w50_w50.out (Nat.le_refl _) hx)
      have HVZ := Lib.hid hown.slice
      have K_w51_w51 := Lib.hid (Below.refl w51.heap.size w51)
      clear hown hx
      go_wp2_with (first | (with_reducible refine Agg.wpList_loadL (RpG.of_blk (HB24.out.below K_w50_w51.out) HC2H.out HC4H.out).all rfl _ rfl rfl ?_))
      refine (pputr_of ⟨HPCO.out, HPB.out⟩ pc HC2H.out HC4H.out (show c6.length ≤ 1048576 from by have h : c6.length ≤ 2000 := HLL.out; omega) _ (HPC.out.below K_w49_w51.out)).mono ?_
      rintro x w52 ⟨vy, rfl, hown, hx⟩
      have K_w_w52 := Lib.hid (Agg.belowThen K_w_w51.out (Nat.le_refl _) hx)
      have K_w2_w52 := Lib.hid (Agg.belowThen K_w2_w51.out (Nat.le_refl _) hx)
      have K_w21_w52 := Lib.hid (Agg.belowThen K_w21_w51.out (Nat.le_refl _) hx)
      have K_w35_w52 := Lib.hid (Agg.belowThen K_w35_w51.out (Nat.le_refl _) hx)
      have K_w37_w52 := Lib.hid (Agg.belowThen K_w37_w51.out (Nat.le_refl _) hx)
      have K_w38_w52 := Lib.hid (Agg.belowThen K_w38_w51.out (Nat.le_refl _) hx)
      have K_w39_w52 := Lib.hid (Agg.belowThen K_w39_w51.out (Nat.le_refl _) hx)
      have K_w43_w52 := Lib.hid (Agg.belowThen K_w43_w51.out (Nat.le_refl _) hx)
      have K_w44_w52 := Lib.hid (Agg.belowThen K_w44_w51.out (Nat.le_refl _) hx)
      have K_w47_w52 := Lib.hid (Agg.belowThen K_w47_w51.out (Nat.le_refl _) hx)
      have K_w48_w52 := Lib.hid (Agg.belowThen K_w48_w51.out (Nat.le_refl _) hx)
      have K_w49_w52 := Lib.hid (Agg.belowThen K_w49_w51.out (Nat.le_refl _) hx)
      have K_w50_w52 := Lib.hid (Agg.belowThen K_w50_w51.out (Nat.le_refl _) hx)
      have K_w51_w52 := Lib.hid (Agg.belowThen K_w51_w51.out (Nat.le_refl _) hx)
      have HVY := Lib.hid hown.slice
      have K_w52_w52 := Lib.hid (Below.refl w52.heap.size w52)
      clear hown hx
      rcases HC2.out with rfl | ⟨rfl, rfl, hqb⟩
      · rcases HD2.out with rfl | ⟨rfl, rfl, hpb⟩
        · go_wp2_with fail
          go_ret
          exact ⟨rfl, K_w_w52.out⟩
        · rw [hpb] at HVY
          clear hpb
          go_wp2_with fail
          refine (sameBytes_any vy v b b (by omega) (by omega) _ (HVY.out.below K_w52_w52.out) (HV.out.below K_w_w52.out)).mono ?_
          rintro x w53 ⟨rfl, hx⟩
          have K_w_w53 := Lib.hid (Agg.belowThen K_w_w52.out (Nat.le_refl _) hx)
          have K_w2_w53 := Lib.hid (Agg.belowThen K_w2_w52.out (Nat.le_refl _) hx)
          have K_w21_w53 := Lib.hid (Agg.belowThen K_w21_w52.out (Nat.le_refl _) hx)
          have K_w35_w53 := Lib.hid (Agg.belowThen K_w35_w52.out (Nat.le_refl _) hx)
          have K_w37_w53 := Lib.hid (Agg.belowThen K_w37_w52.out (Nat.le_refl _) hx)
          have K_w38_w53 := Lib.hid (Agg.belowThen K_w38_w52.out (Nat.le_refl _) hx)
          have K_w39_w53 := Lib.hid (Agg.belowThen K_w39_w52.out (Nat.le_refl _) hx)
          have K_w43_w53 := Lib.hid (Agg.belowThen K_w43_w52.out (Nat.le_refl _) hx)
          have K_w44_w53 := Lib.hid (Agg.belowThen K_w44_w52.out (Nat.le_refl _) hx)
          have K_w47_w53 := Lib.hid (Agg.belowThen K_w47_w52.out (Nat.le_refl _) hx)
          have K_w48_w53 := Lib.hid (Agg.belowThen K_w48_w52.out (Nat.le_refl _) hx)
          have K_w49_w53 := Lib.hid (Agg.belowThen K_w49_w52.out (Nat.le_refl _) hx)
          have K_w50_w53 := Lib.hid (Agg.belowThen K_w50_w52.out (Nat.le_refl _) hx)
          have K_w51_w53 := Lib.hid (Agg.belowThen K_w51_w52.out (Nat.le_refl _) hx)
          have K_w52_w53 := Lib.hid (Agg.belowThen K_w52_w52.out (Nat.le_refl _) hx)
          rw [show decide (b = b) = true from decide_eq_true rfl]
          clear hx
          go_wp2_with fail
          go_ret
          exact ⟨rfl, K_w_w53.out⟩
      · rw [hqb] at HVZ
        clear hqb
        rcases HD2.out with rfl | ⟨rfl, rfl, hpb⟩
        · go_wp2_with fail
          refine (sameBytes_any vz v b b (by omega) (by omega) _ (HVZ.out.below K_w51_w52.out) (HV.out.below K_w_w52.out)).mono ?_
          rintro x w54 ⟨rfl, hx⟩
          have K_w_w54 := Lib.hid (Agg.belowThen K_w_w52.out (Nat.le_refl _) hx)
          have K_w2_w54 := Lib.hid (Agg.belowThen K_w2_w52.out (Nat.le_refl _) hx)
          have K_w21_w54 := Lib.hid (Agg.belowThen K_w21_w52.out (Nat.le_refl _) hx)
          have K_w35_w54 := Lib.hid (Agg.belowThen K_w35_w52.out (Nat.le_refl _) hx)
          have K_w37_w54 := Lib.hid (Agg.belowThen K_w37_w52.out (Nat.le_refl _) hx)
          have K_w38_w54 := Lib.hid (Agg.belowThen K_w38_w52.out (Nat.le_refl _) hx)
          have K_w39_w54 := Lib.hid (Agg.belowThen K_w39_w52.out (Nat.le_refl _) hx)
          have K_w43_w54 := Lib.hid (Agg.belowThen K_w43_w52.out (Nat.le_refl _) hx)
          have K_w44_w54 := Lib.hid (Agg.belowThen K_w44_w52.out (Nat.le_refl _) hx)
          have K_w47_w54 := Lib.hid (Agg.belowThen K_w47_w52.out (Nat.le_refl _) hx)
          have K_w48_w54 := Lib.hid (Agg.belowThen K_w48_w52.out (Nat.le_refl _) hx)
          have K_w49_w54 := Lib.hid (Agg.belowThen K_w49_w52.out (Nat.le_refl _) hx)
          have K_w50_w54 := Lib.hid (Agg.belowThen K_w50_w52.out (Nat.le_refl _) hx)
          have K_w51_w54 := Lib.hid (Agg.belowThen K_w51_w52.out (Nat.le_refl _) hx)
          have K_w52_w54 := Lib.hid (Agg.belowThen K_w52_w52.out (Nat.le_refl _) hx)
          rw [show decide (b = b) = true from decide_eq_true rfl]
          clear hx
          go_wp2_with fail
          go_ret
          exact ⟨rfl, K_w_w54.out⟩
        · rw [hpb] at HVY
          clear hpb
          go_wp2_with fail
          refine (sameBytes_any vz v b b (by omega) (by omega) _ (HVZ.out.below K_w51_w52.out) (HV.out.below K_w_w52.out)).mono ?_
          rintro x w55 ⟨rfl, hx⟩
          have K_w_w55 := Lib.hid (Agg.belowThen K_w_w52.out (Nat.le_refl _) hx)
          have K_w2_w55 := Lib.hid (Agg.belowThen K_w2_w52.out (Nat.le_refl _) hx)
          have K_w21_w55 := Lib.hid (Agg.belowThen K_w21_w52.out (Nat.le_refl _) hx)
          have K_w35_w55 := Lib.hid (Agg.belowThen K_w35_w52.out (Nat.le_refl _) hx)
          have K_w37_w55 := Lib.hid (Agg.belowThen K_w37_w52.out (Nat.le_refl _) hx)
          have K_w38_w55 := Lib.hid (Agg.belowThen K_w38_w52.out (Nat.le_refl _) hx)
          have K_w39_w55 := Lib.hid (Agg.belowThen K_w39_w52.out (Nat.le_refl _) hx)
          have K_w43_w55 := Lib.hid (Agg.belowThen K_w43_w52.out (Nat.le_refl _) hx)
          have K_w44_w55 := Lib.hid (Agg.belowThen K_w44_w52.out (Nat.le_refl _) hx)
          have K_w47_w55 := Lib.hid (Agg.belowThen K_w47_w52.out (Nat.le_refl _) hx)
          have K_w48_w55 := Lib.hid (Agg.belowThen K_w48_w52.out (Nat.le_refl _) hx)
          have K_w49_w55 := Lib.hid (Agg.belowThen K_w49_w52.out (Nat.le_refl _) hx)
          have K_w50_w55 := Lib.hid (Agg.belowThen K_w50_w52.out (Nat.le_refl _) hx)
          have K_w51_w55 := Lib.hid (Agg.belowThen K_w51_w52.out (Nat.le_refl _) hx)
          have K_w52_w55 := Lib.hid (Agg.belowThen K_w52_w52.out (Nat.le_refl _) hx)
          rw [show decide (b = b) = true from decide_eq_true rfl]
          clear hx
          go_wp2_with fail
          refine (sameBytes_any vy v b b (by omega) (by omega) _ (HVY.out.below K_w52_w55.out) (HV.out.below K_w_w55.out)).mono ?_
          rintro x w56 ⟨rfl, hx⟩
          have K_w_w56 := Lib.hid (Agg.belowThen K_w_w55.out (Nat.le_refl _) hx)
          have K_w2_w56 := Lib.hid (Agg.belowThen K_w2_w55.out (Nat.le_refl _) hx)
          have K_w21_w56 := Lib.hid (Agg.belowThen K_w21_w55.out (Nat.le_refl _) hx)
          have K_w35_w56 := Lib.hid (Agg.belowThen K_w35_w55.out (Nat.le_refl _) hx)
          have K_w37_w56 := Lib.hid (Agg.belowThen K_w37_w55.out (Nat.le_refl _) hx)
          have K_w38_w56 := Lib.hid (Agg.belowThen K_w38_w55.out (Nat.le_refl _) hx)
          have K_w39_w56 := Lib.hid (Agg.belowThen K_w39_w55.out (Nat.le_refl _) hx)
          have K_w43_w56 := Lib.hid (Agg.belowThen K_w43_w55.out (Nat.le_refl _) hx)
          have K_w44_w56 := Lib.hid (Agg.belowThen K_w44_w55.out (Nat.le_refl _) hx)
          have K_w47_w56 := Lib.hid (Agg.belowThen K_w47_w55.out (Nat.le_refl _) hx)
          have K_w48_w56 := Lib.hid (Agg.belowThen K_w48_w55.out (Nat.le_refl _) hx)
          have K_w49_w56 := Lib.hid (Agg.belowThen K_w49_w55.out (Nat.le_refl _) hx)
          have K_w50_w56 := Lib.hid (Agg.belowThen K_w50_w55.out (Nat.le_refl _) hx)
          have K_w51_w56 := Lib.hid (Agg.belowThen K_w51_w55.out (Nat.le_refl _) hx)
          have K_w52_w56 := Lib.hid (Agg.belowThen K_w52_w55.out (Nat.le_refl _) hx)
          rw [show decide (b = b) = true from decide_eq_true rfl]
          clear hx
          go_wp2_with fail
          go_ret
          exact ⟨rfl, K_w_w56.out⟩
  | true =>
    have HRT := Lib.hid (fun W (h : BytesAt W vb bs) => (show Calls Try.prog 23 #[.agg (rqG k u wh nm vb ph pn ch)] W fun x w' => x = .returned (.bool true) ∧ Below W.heap.size W w' from by have := right_any k u wh nm vb bs ph pn ch hl hc W h; rwa [show rightN k u wh nm bs.length ph pn ch = _ from hq] at this))
    refine (rput_of (q := (⟨k, u, wh, nm, bs, ph, pn, ch⟩ : Rq)) (c := 0) (b := (putRq (⟨k, u, wh, nm, bs, ph, pn, ch⟩ : Rq))) ⟨by simp [rqCode, hq], by simp [rqBytes, hq]⟩ vb hl hc _ (HB.out.below K_w_w4.out)).mono ?_
    rintro x w57 ⟨vx, rfl, hown, hx⟩
    have K_w_w57 := Lib.hid (Agg.belowThen K_w_w4.out (Nat.le_refl _) hx)
    have K_w2_w57 := Lib.hid (Agg.belowThen K_w2_w4.out (Nat.le_refl _) hx)
    have HVX := Lib.hid hown
    have K_w57_w57 := Lib.hid (Below.refl w57.heap.size w57)
    have HQ := Lib.hid hq
    clear hown hx hq
    go_wp2_with (first | (with_reducible refine Agg.wpList_loadL (RqG.of_blk (HBQ.out.below K_w2_w57.out) hl hc).all rfl _ rfl rfl ?_))
    refine (HRT.out _ (HB.out.below K_w_w57.out)).mono ?_
    rintro x w58 ⟨rfl, hx⟩
    have K_w_w58 := Lib.hid (Agg.belowThen K_w_w57.out (Nat.le_refl _) hx)
    have K_w2_w58 := Lib.hid (Agg.belowThen K_w2_w57.out (Nat.le_refl _) hx)
    have K_w57_w58 := Lib.hid (Agg.belowThen K_w57_w57.out (Nat.le_refl _) hx)
    clear hx
    obtain ⟨j, hj⟩ := len_pos (putRq_pos (⟨k, u, wh, nm, bs, ph, pn, ch⟩ : Rq))
    have hj5 := putRq_len HQ.out hc
    obtain ⟨n, hn⟩ : ∃ n, (putRq (⟨k, u, wh, nm, bs, ph, pn, ch⟩ : Rq)).length = n := ⟨_, rfl⟩
    rw [hn] at hj5
    have hnj : n = j + 1 := hn.symm.trans hj
    have hlx2 := fun W => (bytes_len HVX.out.slice W).trans (by rw [hn] : _ = .ok (.int .i64 (n : Int)) W)
    obtain ⟨px, cx, hfx⟩ := HVX.out.slice.form
    have hcx := HVX.out.cap _ _ _ hfx
    obtain ⟨vj, hvj⟩ : ∃ x, x = Value.slice px j cx := ⟨_, rfl⟩
    have hsl : ∀ W, (Instr.sliceAt 23 vx none (some (.int .i64 ((n : Int) - 1))) none).run Try.prog W = .ok vj W := fun W => by rw [show ((n : Int) - 1) = (j : Int) by omega, hfx, hvj]; exact runHigh px _ cx j (by omega) W
    have HVJ := Lib.hid (show BytesAt w57 vj ((putRq (⟨k, u, wh, nm, bs, ph, pn, ch⟩ : Rq)).take j) from by rw [hvj]; exact sliceOf_taken (by rw [← hfx]; exact HVX.out.slice) j (by omega))
    have HJ := Lib.hid hj
    have HN := Lib.hid hn
    have hjI : ¬ (65536 : Int) < (n : Int) := by omega
    clear hfx hvj hj hn hnj hcx
    go_wp2_with fail
    refine (rget_of (rq_got HQ.out hl hc) vx m0 _ (by rw [HN.out]; omega) ((K_w_w58.out.cell (p := ⟨0, 0, none⟩) hbm).trans HM.out) (HVX.out.slice.below K_w57_w58.out)).mono ?_
    rintro x w59 ⟨vg, rfl, hown, hx⟩
    have K_w_w59 := Lib.hid (Agg.belowThen K_w_w58.out (Nat.le_refl _) hx)
    have K_w2_w59 := Lib.hid (Agg.belowThen K_w2_w58.out (Nat.le_refl _) hx)
    have K_w57_w59 := Lib.hid (Agg.belowThen K_w57_w58.out (Nat.le_refl _) hx)
    have HVG := Lib.hid hown.slice
    have K_w59_w59 := Lib.hid (Below.refl w59.heap.size w59)
    clear hown hx
    go_wp2_with (first | (refine Agg.wpList_new rfl rfl rfl 46 9 74 rfl rfl rfl (by decide) (rqG 0 0 0 [] (.slice none 0 0) z20 [] z20) (rqG k u wh nm vg ph pn ch) rq_zero (by rw [rqG_size z20_length z20_length, rqG_size hl hc]) (rq_info hl hc) (rq_one HVG.out _ _ _ _ _ _ _) rfl (by first | (simp; done) | simp [Act.put]) ?_; intro g9 w60 hb hx hg; have HB9 := Lib.hid hb; have K_w_w60 := Lib.hid (Agg.belowThen K_w_w59.out (Nat.le_refl _) hx); have K_w2_w60 := Lib.hid (Agg.belowThen K_w2_w59.out (Nat.le_refl _) hx); have K_w57_w60 := Lib.hid (Agg.belowThen K_w57_w59.out (Nat.le_refl _) hx); have K_w59_w60 := Lib.hid (Agg.belowThen K_w59_w59.out (Nat.le_refl _) hx); clear hb hx hg))
    have K_w60_w60 := Lib.hid (Below.refl w60.heap.size w60)
    refine (rget_bad (rq_less HQ.out hl hc HJ.out) vj m0 _ (by simp [HN.out]; omega) ((K_w_w60.out.cell (p := ⟨0, 0, none⟩) hbm).trans HM.out) (HVJ.out.below K_w57_w60.out)).mono ?_
    rintro x w61 ⟨vl, rfl, hown, hx⟩
    have K_w_w61 := Lib.hid (Agg.belowThen K_w_w60.out (Nat.le_refl _) hx)
    have K_w2_w61 := Lib.hid (Agg.belowThen K_w2_w60.out (Nat.le_refl _) hx)
    have K_w57_w61 := Lib.hid (Agg.belowThen K_w57_w60.out (Nat.le_refl _) hx)
    have K_w59_w61 := Lib.hid (Agg.belowThen K_w59_w60.out (Nat.le_refl _) hx)
    have K_w60_w61 := Lib.hid (Agg.belowThen K_w60_w60.out (Nat.le_refl _) hx)
    have HVL := Lib.hid hown.slice
    have K_w61_w61 := Lib.hid (Below.refl w61.heap.size w61)
    clear hown hx
    go_wp2_with (first | (refine Agg.wpList_new rfl rfl rfl 46 11 83 rfl rfl rfl (by decide) (rqG 0 0 0 [] (.slice none 0 0) z20 [] z20) (rqG 0 0 0 [] vl z20 [] z20) rq_zero (by rw [rqG_size z20_length z20_length, rqG_size z20_length z20_length]) (rq_info z20_length z20_length) (rq_one HVL.out _ _ _ _ _ _ _) rfl (by first | (simp; done) | simp [Act.put]) ?_; intro g11 w62 hb hx hg; have K_w_w62 := Lib.hid (Agg.belowThen K_w_w61.out (Nat.le_refl _) hx); have K_w2_w62 := Lib.hid (Agg.belowThen K_w2_w61.out (Nat.le_refl _) hx); have K_w57_w62 := Lib.hid (Agg.belowThen K_w57_w61.out (Nat.le_refl _) hx); have K_w59_w62 := Lib.hid (Agg.belowThen K_w59_w61.out (Nat.le_refl _) hx); have K_w60_w62 := Lib.hid (Agg.belowThen K_w60_w61.out (Nat.le_refl _) hx); have K_w61_w62 := Lib.hid (Agg.belowThen K_w61_w61.out (Nat.le_refl _) hx); clear hb hx hg) | (refine Agg.wpList_slice0 (base := w62.heap.size) EB rfl rfl (Nat.le_refl _) ?_; intro ve w63 ho hx hne; have HVE := Lib.hid ho; have hsz0 := hx.size; have K_w_w63 := Lib.hid (Agg.belowThen K_w_w62.out (Nat.le_refl _) hx); have K_w2_w63 := Lib.hid (Agg.belowThen K_w2_w62.out (Nat.le_refl _) hx); have K_w57_w63 := Lib.hid (Agg.belowThen K_w57_w62.out (Nat.le_refl _) hx); have K_w59_w63 := Lib.hid (Agg.belowThen K_w59_w62.out (Nat.le_refl _) hx); have K_w60_w63 := Lib.hid (Agg.belowThen K_w60_w62.out (Nat.le_refl _) hx); have K_w61_w63 := Lib.hid (Agg.belowThen K_w61_w62.out (Nat.le_refl _) hx); have HXE := Lib.hid hx; clear ho hx hne) | (refine Agg.wpList_appendS (E := EB) (base := w62.heap.size) rfl _ _ rfl vx rfl rfl (putRq (⟨k, u, wh, nm, bs, ph, pn, ch⟩ : Rq)) HVE.out (HVX.out.slice.below K_w57_w63.out) (by simp [HN.out]; omega) (by decide) hsz0 ?_; intro va1 w64 ho hp hne; have HVA1 := Lib.hid ho; have HXA := Lib.hid (HXE.out.trans (hp.below w62.heap.size (Nat.le_refl _) hsz0)); have hsz1 := HXA.out.size; clear ho hp hne) | (refine Agg.wpList_push (E := EB) (base := w62.heap.size) rfl rfl 89 rfl _ rfl _ rfl (0 : UInt8) rfl (fun _ => rfl) (by simp [Act.put]) HVA1.out (by simp [HN.out]; omega) (by decide) hsz1 ?_; intro ub va2 w65 ho hp; have HVA2 := Lib.hid ho; have hx := HXA.out.trans (hp.below w62.heap.size (Nat.le_refl _) hsz1); have K_w_w65 := Lib.hid (Agg.belowThen K_w_w62.out (Nat.le_refl _) hx); have K_w2_w65 := Lib.hid (Agg.belowThen K_w2_w62.out (Nat.le_refl _) hx); have K_w57_w65 := Lib.hid (Agg.belowThen K_w57_w62.out (Nat.le_refl _) hx); have K_w59_w65 := Lib.hid (Agg.belowThen K_w59_w62.out (Nat.le_refl _) hx); have K_w60_w65 := Lib.hid (Agg.belowThen K_w60_w62.out (Nat.le_refl _) hx); have K_w61_w65 := Lib.hid (Agg.belowThen K_w61_w62.out (Nat.le_refl _) hx); clear ho hp hx))
    have K_w65_w65 := Lib.hid (Below.refl w65.heap.size w65)
    refine (rget_bad (rq_more HQ.out hl hc) va2 m0 _ (by simp [HN.out]; omega) ((K_w_w65.out.cell (p := ⟨0, 0, none⟩) hbm).trans HM.out) HVA2.out.slice).mono ?_
    rintro x w66 ⟨vm, rfl, hown, hx⟩
    have K_w_w66 := Lib.hid (Agg.belowThen K_w_w65.out (Nat.le_refl _) hx)
    have K_w2_w66 := Lib.hid (Agg.belowThen K_w2_w65.out (Nat.le_refl _) hx)
    have K_w57_w66 := Lib.hid (Agg.belowThen K_w57_w65.out (Nat.le_refl _) hx)
    have K_w59_w66 := Lib.hid (Agg.belowThen K_w59_w65.out (Nat.le_refl _) hx)
    have K_w60_w66 := Lib.hid (Agg.belowThen K_w60_w65.out (Nat.le_refl _) hx)
    have K_w61_w66 := Lib.hid (Agg.belowThen K_w61_w65.out (Nat.le_refl _) hx)
    have K_w65_w66 := Lib.hid (Agg.belowThen K_w65_w65.out (Nat.le_refl _) hx)
    have HVMM := Lib.hid hown.slice
    have K_w66_w66 := Lib.hid (Below.refl w66.heap.size w66)
    clear hown hx
    go_wp2_with (first | (refine Agg.wpList_new rfl rfl rfl 46 13 92 rfl rfl rfl (by decide) (rqG 0 0 0 [] (.slice none 0 0) z20 [] z20) (rqG 0 0 0 [] vm z20 [] z20) rq_zero (by rw [rqG_size z20_length z20_length, rqG_size z20_length z20_length]) (rq_info z20_length z20_length) (rq_one HVMM.out _ _ _ _ _ _ _) rfl (by first | (simp; done) | simp [Act.put]) ?_; intro g13 w67 hb hx hg; have K_w_w67 := Lib.hid (Agg.belowThen K_w_w66.out (Nat.le_refl _) hx); have K_w2_w67 := Lib.hid (Agg.belowThen K_w2_w66.out (Nat.le_refl _) hx); have K_w57_w67 := Lib.hid (Agg.belowThen K_w57_w66.out (Nat.le_refl _) hx); have K_w59_w67 := Lib.hid (Agg.belowThen K_w59_w66.out (Nat.le_refl _) hx); have K_w60_w67 := Lib.hid (Agg.belowThen K_w60_w66.out (Nat.le_refl _) hx); have K_w61_w67 := Lib.hid (Agg.belowThen K_w61_w66.out (Nat.le_refl _) hx); have K_w65_w67 := Lib.hid (Agg.belowThen K_w65_w66.out (Nat.le_refl _) hx); have K_w66_w67 := Lib.hid (Agg.belowThen K_w66_w66.out (Nat.le_refl _) hx); clear hb hx hg) | (with_reducible refine Agg.wpList_loadL (RqG.of_blk (HB9.out.below K_w60_w67.out) hl hc).all rfl _ rfl rfl ?_) | (with_reducible refine Agg.wpList_loadL (RqG.of_blk (HBQ.out.below K_w2_w67.out) hl hc).all rfl _ rfl rfl ?_))
    refine (sameRq_any k u wh nm vg bs ph pn ch hl hc k u wh nm vb bs ph pn ch hl hc h2 h2 _ (HVG.out.below K_w59_w67.out) (HB.out.below K_w_w67.out)).mono ?_
    rintro x w68 ⟨rfl, hx⟩
    have K_w_w68 := Lib.hid (Agg.belowThen K_w_w67.out (Nat.le_refl _) hx)
    have K_w2_w68 := Lib.hid (Agg.belowThen K_w2_w67.out (Nat.le_refl _) hx)
    have K_w57_w68 := Lib.hid (Agg.belowThen K_w57_w67.out (Nat.le_refl _) hx)
    have K_w59_w68 := Lib.hid (Agg.belowThen K_w59_w67.out (Nat.le_refl _) hx)
    have K_w60_w68 := Lib.hid (Agg.belowThen K_w60_w67.out (Nat.le_refl _) hx)
    have K_w61_w68 := Lib.hid (Agg.belowThen K_w61_w67.out (Nat.le_refl _) hx)
    have K_w65_w68 := Lib.hid (Agg.belowThen K_w65_w67.out (Nat.le_refl _) hx)
    have K_w66_w68 := Lib.hid (Agg.belowThen K_w66_w67.out (Nat.le_refl _) hx)
    rw [(sameRq_eq _ _).2 rfl]
    clear hx hsl
    go_wp2_with (first | (with_reducible refine Agg.wpList_loadL (RpG.of_blk (HBS.out.below K_w2_w68.out) hrl hrc).all rfl _ rfl rfl ?_))
    cases hs : (⟨e, rph, rpn, rch, g, l, mm⟩ : Rp).right with
    | false =>
      have HPRT := Lib.hid (fun W (h : ElemsAt W pv l) => (show Calls Try.prog 27 #[.agg (rpG e rph rpn rch g pv mm)] W fun x w' => x = .returned (.bool false) ∧ Below W.heap.size W w' from by have := rright_any e g mm rph rpn rch pv l hrl hrc hll W h; rwa [hs] at this))
      refine (pputr_of (q := (⟨e, rph, rpn, rch, g, l, mm⟩ : Rp)) (c := 2) (b := []) ⟨by simp [rpCode, hs], by simp [rpBytes, hs]⟩ pv hrl hrc hll _ (HP.out.below K_w_w68.out)).mono ?_
      rintro x w69 ⟨vx, rfl, hown, hx⟩
      have K_w_w69 := Lib.hid (Agg.belowThen K_w_w68.out (Nat.le_refl _) hx)
      have K_w2_w69 := Lib.hid (Agg.belowThen K_w2_w68.out (Nat.le_refl _) hx)
      have K_w57_w69 := Lib.hid (Agg.belowThen K_w57_w68.out (Nat.le_refl _) hx)
      have K_w59_w69 := Lib.hid (Agg.belowThen K_w59_w68.out (Nat.le_refl _) hx)
      have K_w60_w69 := Lib.hid (Agg.belowThen K_w60_w68.out (Nat.le_refl _) hx)
      have K_w61_w69 := Lib.hid (Agg.belowThen K_w61_w68.out (Nat.le_refl _) hx)
      have K_w65_w69 := Lib.hid (Agg.belowThen K_w65_w68.out (Nat.le_refl _) hx)
      have K_w66_w69 := Lib.hid (Agg.belowThen K_w66_w68.out (Nat.le_refl _) hx)
      have HVX := Lib.hid hown
      have K_w69_w69 := Lib.hid (Below.refl w69.heap.size w69)
      have HS := Lib.hid hs
      clear hown hx hs
      go_wp2_with (first | (with_reducible refine Agg.wpList_loadL (RpG.of_blk (HBS.out.below K_w2_w69.out) hrl hrc).all rfl _ rfl rfl ?_))
      refine (HPRT.out _ (HP.out.below K_w_w69.out)).mono ?_
      rintro x w70 ⟨rfl, hx⟩
      have K_w_w70 := Lib.hid (Agg.belowThen K_w_w69.out (Nat.le_refl _) hx)
      have K_w2_w70 := Lib.hid (Agg.belowThen K_w2_w69.out (Nat.le_refl _) hx)
      have K_w57_w70 := Lib.hid (Agg.belowThen K_w57_w69.out (Nat.le_refl _) hx)
      have K_w59_w70 := Lib.hid (Agg.belowThen K_w59_w69.out (Nat.le_refl _) hx)
      have K_w60_w70 := Lib.hid (Agg.belowThen K_w60_w69.out (Nat.le_refl _) hx)
      have K_w61_w70 := Lib.hid (Agg.belowThen K_w61_w69.out (Nat.le_refl _) hx)
      have K_w65_w70 := Lib.hid (Agg.belowThen K_w65_w69.out (Nat.le_refl _) hx)
      have K_w66_w70 := Lib.hid (Agg.belowThen K_w66_w69.out (Nat.le_refl _) hx)
      have K_w69_w70 := Lib.hid (Agg.belowThen K_w69_w69.out (Nat.le_refl _) hx)
      clear hx
      go_wp2_with fail
      obtain ⟨a1, a2, a3, a4, a5, a6, a7, a8⟩ := q2
      obtain ⟨c1, c2, c3, c4, c5, c6, c7⟩ := p2
      have HA6 := Lib.hid (show a6.length = 20 from HH2.out.1)
      have HA8 := Lib.hid (show a8.length = 20 from HH2.out.2)
      have HC2H := Lib.hid (show c2.length = 20 from HI2.out.1)
      have HC4H := Lib.hid (show c4.length = 20 from HI2.out.2)
      refine (rget_of ⟨HQ2.out, HE2.out⟩ v m0 _ (by omega) ((K_w_w70.out.cell (p := ⟨0, 0, none⟩) hbm).trans HM.out) (HV.out.below K_w_w70.out)).mono ?_
      rintro x w71 ⟨vc, rfl, hown, hx⟩
      have K_w_w71 := Lib.hid (Agg.belowThen K_w_w70.out (Nat.le_refl _) hx)
      have K_w2_w71 := Lib.hid (Agg.belowThen K_w2_w70.out (Nat.le_refl _) hx)
      have K_w57_w71 := Lib.hid (Agg.belowThen K_w57_w70.out (Nat.le_refl _) hx)
      have K_w59_w71 := Lib.hid (Agg.belowThen K_w59_w70.out (Nat.le_refl _) hx)
      have K_w60_w71 := Lib.hid (Agg.belowThen K_w60_w70.out (Nat.le_refl _) hx)
      have K_w61_w71 := Lib.hid (Agg.belowThen K_w61_w70.out (Nat.le_refl _) hx)
      have K_w65_w71 := Lib.hid (Agg.belowThen K_w65_w70.out (Nat.le_refl _) hx)
      have K_w66_w71 := Lib.hid (Agg.belowThen K_w66_w70.out (Nat.le_refl _) hx)
      have K_w69_w71 := Lib.hid (Agg.belowThen K_w69_w70.out (Nat.le_refl _) hx)
      have HVC := Lib.hid hown.slice
      have K_w71_w71 := Lib.hid (Below.refl w71.heap.size w71)
      clear hown hx
      go_wp2_with (first | (refine Agg.wpList_new rfl rfl rfl 46 22 169 rfl rfl rfl (by decide) (rqG 0 0 0 [] (.slice none 0 0) z20 [] z20) (rqG a1 a2 a3 a4 vc a6 a7 a8) rq_zero (by rw [rqG_size z20_length z20_length, rqG_size HA6.out HA8.out]) (rq_info HA6.out HA8.out) (rq_one HVC.out _ _ _ _ _ _ _) rfl (by first | (simp; done) | simp [Act.put]) ?_; intro g22 w72 hb hx hg; have HB22 := Lib.hid hb; have K_w_w72 := Lib.hid (Agg.belowThen K_w_w71.out (Nat.le_refl _) hx); have K_w2_w72 := Lib.hid (Agg.belowThen K_w2_w71.out (Nat.le_refl _) hx); have K_w57_w72 := Lib.hid (Agg.belowThen K_w57_w71.out (Nat.le_refl _) hx); have K_w59_w72 := Lib.hid (Agg.belowThen K_w59_w71.out (Nat.le_refl _) hx); have K_w60_w72 := Lib.hid (Agg.belowThen K_w60_w71.out (Nat.le_refl _) hx); have K_w61_w72 := Lib.hid (Agg.belowThen K_w61_w71.out (Nat.le_refl _) hx); have K_w65_w72 := Lib.hid (Agg.belowThen K_w65_w71.out (Nat.le_refl _) hx); have K_w66_w72 := Lib.hid (Agg.belowThen K_w66_w71.out (Nat.le_refl _) hx); have K_w69_w72 := Lib.hid (Agg.belowThen K_w69_w71.out (Nat.le_refl _) hx); have K_w71_w72 := Lib.hid (Agg.belowThen K_w71_w71.out (Nat.le_refl _) hx); clear hb hx hg))
      have K_w72_w72 := Lib.hid (Below.refl w72.heap.size w72)
      refine (rgetp_of ⟨HP2.out, HF2.out⟩ v m0 _ (by omega) ((K_w_w72.out.cell (p := ⟨0, 0, none⟩) hbm).trans HM.out) (HV.out.below K_w_w72.out)).mono ?_
      rintro x w73 ⟨pc, rfl, hown, hx⟩
      have K_w_w73 := Lib.hid (Agg.belowThen K_w_w72.out (Nat.le_refl _) hx)
      have K_w2_w73 := Lib.hid (Agg.belowThen K_w2_w72.out (Nat.le_refl _) hx)
      have K_w57_w73 := Lib.hid (Agg.belowThen K_w57_w72.out (Nat.le_refl _) hx)
      have K_w59_w73 := Lib.hid (Agg.belowThen K_w59_w72.out (Nat.le_refl _) hx)
      have K_w60_w73 := Lib.hid (Agg.belowThen K_w60_w72.out (Nat.le_refl _) hx)
      have K_w61_w73 := Lib.hid (Agg.belowThen K_w61_w72.out (Nat.le_refl _) hx)
      have K_w65_w73 := Lib.hid (Agg.belowThen K_w65_w72.out (Nat.le_refl _) hx)
      have K_w66_w73 := Lib.hid (Agg.belowThen K_w66_w72.out (Nat.le_refl _) hx)
      have K_w69_w73 := Lib.hid (Agg.belowThen K_w69_w72.out (Nat.le_refl _) hx)
      have K_w71_w73 := Lib.hid (Agg.belowThen K_w71_w72.out (Nat.le_refl _) hx)
      have K_w72_w73 := Lib.hid (Agg.belowThen K_w72_w72.out (Nat.le_refl _) hx)
      have HPC := Lib.hid hown.slice
      have K_w73_w73 := Lib.hid (Below.refl w73.heap.size w73)
      clear hown hx
      go_wp2_with (first | (refine Agg.wpList_new rfl rfl rfl 49 24 174 rfl rfl rfl (by decide) (rpG 0 z20 [] z20 0 (.slice none 0 0) 0) (rpG c1 c2 c3 c4 c5 pc c7) rp_zero (by rw [rpG_size z20_length z20_length, rpG_size HC2H.out HC4H.out]) (rp_info HC2H.out HC4H.out) (rp_one HPC.out _ _ _ _ _ _) rfl (by first | (simp; done) | simp [Act.put]) ?_; intro g24 w74 hb hx hg; have HB24 := Lib.hid hb; have K_w_w74 := Lib.hid (Agg.belowThen K_w_w73.out (Nat.le_refl _) hx); have K_w2_w74 := Lib.hid (Agg.belowThen K_w2_w73.out (Nat.le_refl _) hx); have K_w57_w74 := Lib.hid (Agg.belowThen K_w57_w73.out (Nat.le_refl _) hx); have K_w59_w74 := Lib.hid (Agg.belowThen K_w59_w73.out (Nat.le_refl _) hx); have K_w60_w74 := Lib.hid (Agg.belowThen K_w60_w73.out (Nat.le_refl _) hx); have K_w61_w74 := Lib.hid (Agg.belowThen K_w61_w73.out (Nat.le_refl _) hx); have K_w65_w74 := Lib.hid (Agg.belowThen K_w65_w73.out (Nat.le_refl _) hx); have K_w66_w74 := Lib.hid (Agg.belowThen K_w66_w73.out (Nat.le_refl _) hx); have K_w69_w74 := Lib.hid (Agg.belowThen K_w69_w73.out (Nat.le_refl _) hx); have K_w71_w74 := Lib.hid (Agg.belowThen K_w71_w73.out (Nat.le_refl _) hx); have K_w72_w74 := Lib.hid (Agg.belowThen K_w72_w73.out (Nat.le_refl _) hx); have K_w73_w74 := Lib.hid (Agg.belowThen K_w73_w73.out (Nat.le_refl _) hx); clear hb hx hg) | (with_reducible refine Agg.wpList_loadL (RqG.of_blk (HB22.out.below K_w72_w74.out) HA6.out HA8.out).all rfl _ rfl rfl ?_))
      have K_w74_w74 := Lib.hid (Below.refl w74.heap.size w74)
      refine (rput_of ⟨HQC.out, HQB.out⟩ vc HA6.out HA8.out _ (HVC.out.below K_w71_w74.out)).mono ?_
      rintro x w75 ⟨vz, rfl, hown, hx⟩
      have K_w_w75 := Lib.hid (Agg.belowThen K_w_w74.out (Nat.le_refl _) hx)
      have K_w2_w75 := Lib.hid (Agg.belowThen K_w2_w74.out (Nat.le_refl _) hx)
      have K_w57_w75 := Lib.hid (Agg.belowThen K_w57_w74.out (Nat.le_refl _) hx)
      have K_w59_w75 := Lib.hid (Agg.belowThen K_w59_w74.out (Nat.le_refl _) hx)
      have K_w60_w75 := Lib.hid (Agg.belowThen K_w60_w74.out (Nat.le_refl _) hx)
      have K_w61_w75 := Lib.hid (Agg.belowThen K_w61_w74.out (Nat.le_refl _) hx)
      have K_w65_w75 := Lib.hid (Agg.belowThen K_w65_w74.out (Nat.le_refl _) hx)
      have K_w66_w75 := Lib.hid (Agg.belowThen K_w66_w74.out (Nat.le_refl _) hx)
      have K_w69_w75 := Lib.hid (Agg.belowThen K_w69_w74.out (Nat.le_refl _) hx)
      have K_w71_w75 := Lib.hid (Agg.belowThen K_w71_w74.out (Nat.le_refl _) hx)
      have K_w72_w75 := Lib.hid (Agg.belowThen K_w72_w74.out (Nat.le_refl _) hx)
      have K_w73_w75 := Lib.hid (Agg.belowThen K_w73_w74.out (Nat.le_refl _) hx)
      have K_w74_w75 := Lib.hid (Agg.belowThen K_w74_w74.out (Nat.le_refl _) hx)
      have HVZ := Lib.hid hown.slice
      have K_w75_w75 := Lib.hid (Below.refl w75.heap.size w75)
      clear hown hx
      go_wp2_with (first | (with_reducible refine Agg.wpList_loadL (RpG.of_blk (HB24.out.below K_w74_w75.out) HC2H.out HC4H.out).all rfl _ rfl rfl ?_))
      refine (pputr_of ⟨HPCO.out, HPB.out⟩ pc HC2H.out HC4H.out (show c6.length ≤ 1048576 from by have h : c6.length ≤ 2000 := HLL.out; omega) _ (HPC.out.below K_w73_w75.out)).mono ?_
      rintro x w76 ⟨vy, rfl, hown, hx⟩
      have K_w_w76 := Lib.hid (Agg.belowThen K_w_w75.out (Nat.le_refl _) hx)
      have K_w2_w76 := Lib.hid (Agg.belowThen K_w2_w75.out (Nat.le_refl _) hx)
      have K_w57_w76 := Lib.hid (Agg.belowThen K_w57_w75.out (Nat.le_refl _) hx)
      have K_w59_w76 := Lib.hid (Agg.belowThen K_w59_w75.out (Nat.le_refl _) hx)
      have K_w60_w76 := Lib.hid (Agg.belowThen K_w60_w75.out (Nat.le_refl _) hx)
      have K_w61_w76 := Lib.hid (Agg.belowThen K_w61_w75.out (Nat.le_refl _) hx)
      have K_w65_w76 := Lib.hid (Agg.belowThen K_w65_w75.out (Nat.le_refl _) hx)
      have K_w66_w76 := Lib.hid (Agg.belowThen K_w66_w75.out (Nat.le_refl _) hx)
      have K_w69_w76 := Lib.hid (Agg.belowThen K_w69_w75.out (Nat.le_refl _) hx)
      have K_w71_w76 := Lib.hid (Agg.belowThen K_w71_w75.out (Nat.le_refl _) hx)
      have K_w72_w76 := Lib.hid (Agg.belowThen K_w72_w75.out (Nat.le_refl _) hx)
      have K_w73_w76 := Lib.hid (Agg.belowThen K_w73_w75.out (Nat.le_refl _) hx)
      have K_w74_w76 := Lib.hid (Agg.belowThen K_w74_w75.out (Nat.le_refl _) hx)
      have K_w75_w76 := Lib.hid (Agg.belowThen K_w75_w75.out (Nat.le_refl _) hx)
      have HVY := Lib.hid hown.slice
      have K_w76_w76 := Lib.hid (Below.refl w76.heap.size w76)
      clear hown hx
      rcases HC2.out with rfl | ⟨rfl, rfl, hqb⟩
      · rcases HD2.out with rfl | ⟨rfl, rfl, hpb⟩
        · go_wp2_with fail
          go_ret
          exact ⟨rfl, K_w_w76.out⟩
        · rw [hpb] at HVY
          clear hpb
          go_wp2_with fail
          refine (sameBytes_any vy v b b (by omega) (by omega) _ (HVY.out.below K_w76_w76.out) (HV.out.below K_w_w76.out)).mono ?_
          rintro x w77 ⟨rfl, hx⟩
          have K_w_w77 := Lib.hid (Agg.belowThen K_w_w76.out (Nat.le_refl _) hx)
          have K_w2_w77 := Lib.hid (Agg.belowThen K_w2_w76.out (Nat.le_refl _) hx)
          have K_w57_w77 := Lib.hid (Agg.belowThen K_w57_w76.out (Nat.le_refl _) hx)
          have K_w59_w77 := Lib.hid (Agg.belowThen K_w59_w76.out (Nat.le_refl _) hx)
          have K_w60_w77 := Lib.hid (Agg.belowThen K_w60_w76.out (Nat.le_refl _) hx)
          have K_w61_w77 := Lib.hid (Agg.belowThen K_w61_w76.out (Nat.le_refl _) hx)
          have K_w65_w77 := Lib.hid (Agg.belowThen K_w65_w76.out (Nat.le_refl _) hx)
          have K_w66_w77 := Lib.hid (Agg.belowThen K_w66_w76.out (Nat.le_refl _) hx)
          have K_w69_w77 := Lib.hid (Agg.belowThen K_w69_w76.out (Nat.le_refl _) hx)
          have K_w71_w77 := Lib.hid (Agg.belowThen K_w71_w76.out (Nat.le_refl _) hx)
          have K_w72_w77 := Lib.hid (Agg.belowThen K_w72_w76.out (Nat.le_refl _) hx)
          have K_w73_w77 := Lib.hid (Agg.belowThen K_w73_w76.out (Nat.le_refl _) hx)
          have K_w74_w77 := Lib.hid (Agg.belowThen K_w74_w76.out (Nat.le_refl _) hx)
          have K_w75_w77 := Lib.hid (Agg.belowThen K_w75_w76.out (Nat.le_refl _) hx)
          have K_w76_w77 := Lib.hid (Agg.belowThen K_w76_w76.out (Nat.le_refl _) hx)
          rw [show decide (b = b) = true from decide_eq_true rfl]
          clear hx
          go_wp2_with fail
          go_ret
          exact ⟨rfl, K_w_w77.out⟩
      · rw [hqb] at HVZ
        clear hqb
        rcases HD2.out with rfl | ⟨rfl, rfl, hpb⟩
        · go_wp2_with fail
          refine (sameBytes_any vz v b b (by omega) (by omega) _ (HVZ.out.below K_w75_w76.out) (HV.out.below K_w_w76.out)).mono ?_
          rintro x w78 ⟨rfl, hx⟩
          have K_w_w78 := Lib.hid (Agg.belowThen K_w_w76.out (Nat.le_refl _) hx)
          have K_w2_w78 := Lib.hid (Agg.belowThen K_w2_w76.out (Nat.le_refl _) hx)
          have K_w57_w78 := Lib.hid (Agg.belowThen K_w57_w76.out (Nat.le_refl _) hx)
          have K_w59_w78 := Lib.hid (Agg.belowThen K_w59_w76.out (Nat.le_refl _) hx)
          have K_w60_w78 := Lib.hid (Agg.belowThen K_w60_w76.out (Nat.le_refl _) hx)
          have K_w61_w78 := Lib.hid (Agg.belowThen K_w61_w76.out (Nat.le_refl _) hx)
          have K_w65_w78 := Lib.hid (Agg.belowThen K_w65_w76.out (Nat.le_refl _) hx)
          have K_w66_w78 := Lib.hid (Agg.belowThen K_w66_w76.out (Nat.le_refl _) hx)
          have K_w69_w78 := Lib.hid (Agg.belowThen K_w69_w76.out (Nat.le_refl _) hx)
          have K_w71_w78 := Lib.hid (Agg.belowThen K_w71_w76.out (Nat.le_refl _) hx)
          have K_w72_w78 := Lib.hid (Agg.belowThen K_w72_w76.out (Nat.le_refl _) hx)
          have K_w73_w78 := Lib.hid (Agg.belowThen K_w73_w76.out (Nat.le_refl _) hx)
          have K_w74_w78 := Lib.hid (Agg.belowThen K_w74_w76.out (Nat.le_refl _) hx)
          have K_w75_w78 := Lib.hid (Agg.belowThen K_w75_w76.out (Nat.le_refl _) hx)
          have K_w76_w78 := Lib.hid (Agg.belowThen K_w76_w76.out (Nat.le_refl _) hx)
          rw [show decide (b = b) = true from decide_eq_true rfl]
          clear hx
          go_wp2_with fail
          go_ret
          exact ⟨rfl, K_w_w78.out⟩
        · rw [hpb] at HVY
          clear hpb
          go_wp2_with fail
          refine (sameBytes_any vz v b b (by omega) (by omega) _ (HVZ.out.below K_w75_w76.out) (HV.out.below K_w_w76.out)).mono ?_
          rintro x w79 ⟨rfl, hx⟩
          have K_w_w79 := Lib.hid (Agg.belowThen K_w_w76.out (Nat.le_refl _) hx)
          have K_w2_w79 := Lib.hid (Agg.belowThen K_w2_w76.out (Nat.le_refl _) hx)
          have K_w57_w79 := Lib.hid (Agg.belowThen K_w57_w76.out (Nat.le_refl _) hx)
          have K_w59_w79 := Lib.hid (Agg.belowThen K_w59_w76.out (Nat.le_refl _) hx)
          have K_w60_w79 := Lib.hid (Agg.belowThen K_w60_w76.out (Nat.le_refl _) hx)
          have K_w61_w79 := Lib.hid (Agg.belowThen K_w61_w76.out (Nat.le_refl _) hx)
          have K_w65_w79 := Lib.hid (Agg.belowThen K_w65_w76.out (Nat.le_refl _) hx)
          have K_w66_w79 := Lib.hid (Agg.belowThen K_w66_w76.out (Nat.le_refl _) hx)
          have K_w69_w79 := Lib.hid (Agg.belowThen K_w69_w76.out (Nat.le_refl _) hx)
          have K_w71_w79 := Lib.hid (Agg.belowThen K_w71_w76.out (Nat.le_refl _) hx)
          have K_w72_w79 := Lib.hid (Agg.belowThen K_w72_w76.out (Nat.le_refl _) hx)
          have K_w73_w79 := Lib.hid (Agg.belowThen K_w73_w76.out (Nat.le_refl _) hx)
          have K_w74_w79 := Lib.hid (Agg.belowThen K_w74_w76.out (Nat.le_refl _) hx)
          have K_w75_w79 := Lib.hid (Agg.belowThen K_w75_w76.out (Nat.le_refl _) hx)
          have K_w76_w79 := Lib.hid (Agg.belowThen K_w76_w76.out (Nat.le_refl _) hx)
          rw [show decide (b = b) = true from decide_eq_true rfl]
          clear hx
          go_wp2_with fail
          refine (sameBytes_any vy v b b (by omega) (by omega) _ (HVY.out.below K_w76_w79.out) (HV.out.below K_w_w79.out)).mono ?_
          rintro x w80 ⟨rfl, hx⟩
          have K_w_w80 := Lib.hid (Agg.belowThen K_w_w79.out (Nat.le_refl _) hx)
          have K_w2_w80 := Lib.hid (Agg.belowThen K_w2_w79.out (Nat.le_refl _) hx)
          have K_w57_w80 := Lib.hid (Agg.belowThen K_w57_w79.out (Nat.le_refl _) hx)
          have K_w59_w80 := Lib.hid (Agg.belowThen K_w59_w79.out (Nat.le_refl _) hx)
          have K_w60_w80 := Lib.hid (Agg.belowThen K_w60_w79.out (Nat.le_refl _) hx)
          have K_w61_w80 := Lib.hid (Agg.belowThen K_w61_w79.out (Nat.le_refl _) hx)
          have K_w65_w80 := Lib.hid (Agg.belowThen K_w65_w79.out (Nat.le_refl _) hx)
          have K_w66_w80 := Lib.hid (Agg.belowThen K_w66_w79.out (Nat.le_refl _) hx)
          have K_w69_w80 := Lib.hid (Agg.belowThen K_w69_w79.out (Nat.le_refl _) hx)
          have K_w71_w80 := Lib.hid (Agg.belowThen K_w71_w79.out (Nat.le_refl _) hx)
          have K_w72_w80 := Lib.hid (Agg.belowThen K_w72_w79.out (Nat.le_refl _) hx)
          have K_w73_w80 := Lib.hid (Agg.belowThen K_w73_w79.out (Nat.le_refl _) hx)
          have K_w74_w80 := Lib.hid (Agg.belowThen K_w74_w79.out (Nat.le_refl _) hx)
          have K_w75_w80 := Lib.hid (Agg.belowThen K_w75_w79.out (Nat.le_refl _) hx)
          have K_w76_w80 := Lib.hid (Agg.belowThen K_w76_w79.out (Nat.le_refl _) hx)
          rw [show decide (b = b) = true from decide_eq_true rfl]
          clear hx
          go_wp2_with fail
          go_ret
          exact ⟨rfl, K_w_w80.out⟩
    | true =>
      have HPRT := Lib.hid (fun W (h : ElemsAt W pv l) => (show Calls Try.prog 27 #[.agg (rpG e rph rpn rch g pv mm)] W fun x w' => x = .returned (.bool true) ∧ Below W.heap.size W w' from by have := rright_any e g mm rph rpn rch pv l hrl hrc hll W h; rwa [hs] at this))
      refine (pputr_of (q := (⟨e, rph, rpn, rch, g, l, mm⟩ : Rp)) (c := 0) (b := (putRp (⟨e, rph, rpn, rch, g, l, mm⟩ : Rp))) ⟨by simp [rpCode, hs], by simp [rpBytes, hs]⟩ pv hrl hrc hll _ (HP.out.below K_w_w68.out)).mono ?_
      rintro x w81 ⟨vx, rfl, hown, hx⟩
      have K_w_w81 := Lib.hid (Agg.belowThen K_w_w68.out (Nat.le_refl _) hx)
      have K_w2_w81 := Lib.hid (Agg.belowThen K_w2_w68.out (Nat.le_refl _) hx)
      have K_w57_w81 := Lib.hid (Agg.belowThen K_w57_w68.out (Nat.le_refl _) hx)
      have K_w59_w81 := Lib.hid (Agg.belowThen K_w59_w68.out (Nat.le_refl _) hx)
      have K_w60_w81 := Lib.hid (Agg.belowThen K_w60_w68.out (Nat.le_refl _) hx)
      have K_w61_w81 := Lib.hid (Agg.belowThen K_w61_w68.out (Nat.le_refl _) hx)
      have K_w65_w81 := Lib.hid (Agg.belowThen K_w65_w68.out (Nat.le_refl _) hx)
      have K_w66_w81 := Lib.hid (Agg.belowThen K_w66_w68.out (Nat.le_refl _) hx)
      have HVX := Lib.hid hown
      have K_w81_w81 := Lib.hid (Below.refl w81.heap.size w81)
      have HS := Lib.hid hs
      clear hown hx hs
      go_wp2_with (first | (with_reducible refine Agg.wpList_loadL (RpG.of_blk (HBS.out.below K_w2_w81.out) hrl hrc).all rfl _ rfl rfl ?_))
      refine (HPRT.out _ (HP.out.below K_w_w81.out)).mono ?_
      rintro x w82 ⟨rfl, hx⟩
      have K_w_w82 := Lib.hid (Agg.belowThen K_w_w81.out (Nat.le_refl _) hx)
      have K_w2_w82 := Lib.hid (Agg.belowThen K_w2_w81.out (Nat.le_refl _) hx)
      have K_w57_w82 := Lib.hid (Agg.belowThen K_w57_w81.out (Nat.le_refl _) hx)
      have K_w59_w82 := Lib.hid (Agg.belowThen K_w59_w81.out (Nat.le_refl _) hx)
      have K_w60_w82 := Lib.hid (Agg.belowThen K_w60_w81.out (Nat.le_refl _) hx)
      have K_w61_w82 := Lib.hid (Agg.belowThen K_w61_w81.out (Nat.le_refl _) hx)
      have K_w65_w82 := Lib.hid (Agg.belowThen K_w65_w81.out (Nat.le_refl _) hx)
      have K_w66_w82 := Lib.hid (Agg.belowThen K_w66_w81.out (Nat.le_refl _) hx)
      have K_w81_w82 := Lib.hid (Agg.belowThen K_w81_w81.out (Nat.le_refl _) hx)
      clear hx
      obtain ⟨j, hj⟩ := len_pos (putRp_pos (⟨e, rph, rpn, rch, g, l, mm⟩ : Rp))
      have hj5 := putRp_len HS.out hrc
      obtain ⟨n, hn⟩ : ∃ n, (putRp (⟨e, rph, rpn, rch, g, l, mm⟩ : Rp)).length = n := ⟨_, rfl⟩
      rw [hn] at hj5
      have hnj : n = j + 1 := hn.symm.trans hj
      have hlx2 := fun W => (bytes_len HVX.out.slice W).trans (by rw [hn] : _ = .ok (.int .i64 (n : Int)) W)
      obtain ⟨px, cx, hfx⟩ := HVX.out.slice.form
      have hcx := HVX.out.cap _ _ _ hfx
      obtain ⟨vj, hvj⟩ : ∃ x, x = Value.slice px j cx := ⟨_, rfl⟩
      have hsl : ∀ W, (Instr.sliceAt 23 vx none (some (.int .i64 ((n : Int) - 1))) none).run Try.prog W = .ok vj W := fun W => by rw [show ((n : Int) - 1) = (j : Int) by omega, hfx, hvj]; exact runHigh px _ cx j (by omega) W
      have HVJ := Lib.hid (show BytesAt w81 vj ((putRp (⟨e, rph, rpn, rch, g, l, mm⟩ : Rp)).take j) from by rw [hvj]; exact sliceOf_taken (by rw [← hfx]; exact HVX.out.slice) j (by omega))
      have HJ := Lib.hid hj
      have HN := Lib.hid hn
      clear hfx hvj hj hn hnj hcx
      go_wp2_with fail
      refine (rgetp_of (rp_got HS.out hrl hrc) vx m0 _ (by rw [HN.out]; omega) ((K_w_w82.out.cell (p := ⟨0, 0, none⟩) hbm).trans HM.out) (HVX.out.slice.below K_w81_w82.out)).mono ?_
      rintro x w83 ⟨vg, rfl, hown, hx⟩
      have K_w_w83 := Lib.hid (Agg.belowThen K_w_w82.out (Nat.le_refl _) hx)
      have K_w2_w83 := Lib.hid (Agg.belowThen K_w2_w82.out (Nat.le_refl _) hx)
      have K_w57_w83 := Lib.hid (Agg.belowThen K_w57_w82.out (Nat.le_refl _) hx)
      have K_w59_w83 := Lib.hid (Agg.belowThen K_w59_w82.out (Nat.le_refl _) hx)
      have K_w60_w83 := Lib.hid (Agg.belowThen K_w60_w82.out (Nat.le_refl _) hx)
      have K_w61_w83 := Lib.hid (Agg.belowThen K_w61_w82.out (Nat.le_refl _) hx)
      have K_w65_w83 := Lib.hid (Agg.belowThen K_w65_w82.out (Nat.le_refl _) hx)
      have K_w66_w83 := Lib.hid (Agg.belowThen K_w66_w82.out (Nat.le_refl _) hx)
      have K_w81_w83 := Lib.hid (Agg.belowThen K_w81_w82.out (Nat.le_refl _) hx)
      have HVG := Lib.hid hown.slice
      have K_w83_w83 := Lib.hid (Below.refl w83.heap.size w83)
      clear hown hx
      go_wp2_with (first | (refine Agg.wpList_new rfl rfl rfl 49 16 130 rfl rfl rfl (by decide) (rpG 0 z20 [] z20 0 (.slice none 0 0) 0) (rpG e rph rpn rch g vg mm) rp_zero (by rw [rpG_size z20_length z20_length, rpG_size hrl hrc]) (rp_info hrl hrc) (rp_one HVG.out _ _ _ _ _ _) rfl (by first | (simp; done) | simp [Act.put]) ?_; intro g16 w84 hb hx hg; have HB16 := Lib.hid hb; have K_w_w84 := Lib.hid (Agg.belowThen K_w_w83.out (Nat.le_refl _) hx); have K_w2_w84 := Lib.hid (Agg.belowThen K_w2_w83.out (Nat.le_refl _) hx); have K_w57_w84 := Lib.hid (Agg.belowThen K_w57_w83.out (Nat.le_refl _) hx); have K_w59_w84 := Lib.hid (Agg.belowThen K_w59_w83.out (Nat.le_refl _) hx); have K_w60_w84 := Lib.hid (Agg.belowThen K_w60_w83.out (Nat.le_refl _) hx); have K_w61_w84 := Lib.hid (Agg.belowThen K_w61_w83.out (Nat.le_refl _) hx); have K_w65_w84 := Lib.hid (Agg.belowThen K_w65_w83.out (Nat.le_refl _) hx); have K_w66_w84 := Lib.hid (Agg.belowThen K_w66_w83.out (Nat.le_refl _) hx); have K_w81_w84 := Lib.hid (Agg.belowThen K_w81_w83.out (Nat.le_refl _) hx); have K_w83_w84 := Lib.hid (Agg.belowThen K_w83_w83.out (Nat.le_refl _) hx); clear hb hx hg))
      have K_w84_w84 := Lib.hid (Below.refl w84.heap.size w84)
      refine (rgetp_bad (rp_less HS.out hrl hrc HJ.out) vj m0 _ (by simp [HN.out]; omega) ((K_w_w84.out.cell (p := ⟨0, 0, none⟩) hbm).trans HM.out) (HVJ.out.below K_w81_w84.out)).mono ?_
      rintro x w85 ⟨vl, rfl, hown, hx⟩
      have K_w_w85 := Lib.hid (Agg.belowThen K_w_w84.out (Nat.le_refl _) hx)
      have K_w2_w85 := Lib.hid (Agg.belowThen K_w2_w84.out (Nat.le_refl _) hx)
      have K_w57_w85 := Lib.hid (Agg.belowThen K_w57_w84.out (Nat.le_refl _) hx)
      have K_w59_w85 := Lib.hid (Agg.belowThen K_w59_w84.out (Nat.le_refl _) hx)
      have K_w60_w85 := Lib.hid (Agg.belowThen K_w60_w84.out (Nat.le_refl _) hx)
      have K_w61_w85 := Lib.hid (Agg.belowThen K_w61_w84.out (Nat.le_refl _) hx)
      have K_w65_w85 := Lib.hid (Agg.belowThen K_w65_w84.out (Nat.le_refl _) hx)
      have K_w66_w85 := Lib.hid (Agg.belowThen K_w66_w84.out (Nat.le_refl _) hx)
      have K_w81_w85 := Lib.hid (Agg.belowThen K_w81_w84.out (Nat.le_refl _) hx)
      have K_w83_w85 := Lib.hid (Agg.belowThen K_w83_w84.out (Nat.le_refl _) hx)
      have K_w84_w85 := Lib.hid (Agg.belowThen K_w84_w84.out (Nat.le_refl _) hx)
      have HVL := Lib.hid hown.slice
      have K_w85_w85 := Lib.hid (Below.refl w85.heap.size w85)
      clear hown hx
      go_wp2_with (first | (refine Agg.wpList_new rfl rfl rfl 49 18 139 rfl rfl rfl (by decide) (rpG 0 z20 [] z20 0 (.slice none 0 0) 0) (rpG 0 z20 [] z20 0 vl 0) rp_zero (by rw [rpG_size z20_length z20_length, rpG_size z20_length z20_length]) (rp_info z20_length z20_length) (rp_one HVL.out _ _ _ _ _ _) rfl (by first | (simp; done) | simp [Act.put]) ?_; intro g18 w86 hb hx hg; have K_w_w86 := Lib.hid (Agg.belowThen K_w_w85.out (Nat.le_refl _) hx); have K_w2_w86 := Lib.hid (Agg.belowThen K_w2_w85.out (Nat.le_refl _) hx); have K_w57_w86 := Lib.hid (Agg.belowThen K_w57_w85.out (Nat.le_refl _) hx); have K_w59_w86 := Lib.hid (Agg.belowThen K_w59_w85.out (Nat.le_refl _) hx); have K_w60_w86 := Lib.hid (Agg.belowThen K_w60_w85.out (Nat.le_refl _) hx); have K_w61_w86 := Lib.hid (Agg.belowThen K_w61_w85.out (Nat.le_refl _) hx); have K_w65_w86 := Lib.hid (Agg.belowThen K_w65_w85.out (Nat.le_refl _) hx); have K_w66_w86 := Lib.hid (Agg.belowThen K_w66_w85.out (Nat.le_refl _) hx); have K_w81_w86 := Lib.hid (Agg.belowThen K_w81_w85.out (Nat.le_refl _) hx); have K_w83_w86 := Lib.hid (Agg.belowThen K_w83_w85.out (Nat.le_refl _) hx); have K_w84_w86 := Lib.hid (Agg.belowThen K_w84_w85.out (Nat.le_refl _) hx); have K_w85_w86 := Lib.hid (Agg.belowThen K_w85_w85.out (Nat.le_refl _) hx); clear hb hx hg) | (refine Agg.wpList_slice0 (base := w86.heap.size) EB rfl rfl (Nat.le_refl _) ?_; intro ve w87 ho hx hne; have HVE := Lib.hid ho; have hsz0 := hx.size; have K_w_w87 := Lib.hid (Agg.belowThen K_w_w86.out (Nat.le_refl _) hx); have K_w2_w87 := Lib.hid (Agg.belowThen K_w2_w86.out (Nat.le_refl _) hx); have K_w57_w87 := Lib.hid (Agg.belowThen K_w57_w86.out (Nat.le_refl _) hx); have K_w59_w87 := Lib.hid (Agg.belowThen K_w59_w86.out (Nat.le_refl _) hx); have K_w60_w87 := Lib.hid (Agg.belowThen K_w60_w86.out (Nat.le_refl _) hx); have K_w61_w87 := Lib.hid (Agg.belowThen K_w61_w86.out (Nat.le_refl _) hx); have K_w65_w87 := Lib.hid (Agg.belowThen K_w65_w86.out (Nat.le_refl _) hx); have K_w66_w87 := Lib.hid (Agg.belowThen K_w66_w86.out (Nat.le_refl _) hx); have K_w81_w87 := Lib.hid (Agg.belowThen K_w81_w86.out (Nat.le_refl _) hx); have K_w83_w87 := Lib.hid (Agg.belowThen K_w83_w86.out (Nat.le_refl _) hx); have K_w84_w87 := Lib.hid (Agg.belowThen K_w84_w86.out (Nat.le_refl _) hx); have K_w85_w87 := Lib.hid (Agg.belowThen K_w85_w86.out (Nat.le_refl _) hx); have HXE := Lib.hid hx; clear ho hx hne) | (refine Agg.wpList_appendS (E := EB) (base := w86.heap.size) rfl _ _ rfl vx rfl rfl (putRp (⟨e, rph, rpn, rch, g, l, mm⟩ : Rp)) HVE.out (HVX.out.slice.below K_w81_w87.out) (by simp [HN.out]; omega) (by decide) hsz0 ?_; intro va1 w88 ho hp hne; have HVA1 := Lib.hid ho; have HXA := Lib.hid (HXE.out.trans (hp.below w86.heap.size (Nat.le_refl _) hsz0)); have hsz1 := HXA.out.size; clear ho hp hne) | (refine Agg.wpList_push (E := EB) (base := w86.heap.size) rfl rfl 145 rfl _ rfl _ rfl (0 : UInt8) rfl (fun _ => rfl) (by simp [Act.put]) HVA1.out (by simp [HN.out]; omega) (by decide) hsz1 ?_; intro ub va2 w89 ho hp; have HVA2 := Lib.hid ho; have hx := HXA.out.trans (hp.below w86.heap.size (Nat.le_refl _) hsz1); have K_w_w89 := Lib.hid (Agg.belowThen K_w_w86.out (Nat.le_refl _) hx); have K_w2_w89 := Lib.hid (Agg.belowThen K_w2_w86.out (Nat.le_refl _) hx); have K_w57_w89 := Lib.hid (Agg.belowThen K_w57_w86.out (Nat.le_refl _) hx); have K_w59_w89 := Lib.hid (Agg.belowThen K_w59_w86.out (Nat.le_refl _) hx); have K_w60_w89 := Lib.hid (Agg.belowThen K_w60_w86.out (Nat.le_refl _) hx); have K_w61_w89 := Lib.hid (Agg.belowThen K_w61_w86.out (Nat.le_refl _) hx); have K_w65_w89 := Lib.hid (Agg.belowThen K_w65_w86.out (Nat.le_refl _) hx); have K_w66_w89 := Lib.hid (Agg.belowThen K_w66_w86.out (Nat.le_refl _) hx); have K_w81_w89 := Lib.hid (Agg.belowThen K_w81_w86.out (Nat.le_refl _) hx); have K_w83_w89 := Lib.hid (Agg.belowThen K_w83_w86.out (Nat.le_refl _) hx); have K_w84_w89 := Lib.hid (Agg.belowThen K_w84_w86.out (Nat.le_refl _) hx); have K_w85_w89 := Lib.hid (Agg.belowThen K_w85_w86.out (Nat.le_refl _) hx); clear ho hp hx))
      have K_w89_w89 := Lib.hid (Below.refl w89.heap.size w89)
      refine (rgetp_bad (rp_more HS.out hrl hrc) va2 m0 _ (by simp [HN.out]; omega) ((K_w_w89.out.cell (p := ⟨0, 0, none⟩) hbm).trans HM.out) HVA2.out.slice).mono ?_
      rintro x w90 ⟨vm, rfl, hown, hx⟩
      have K_w_w90 := Lib.hid (Agg.belowThen K_w_w89.out (Nat.le_refl _) hx)
      have K_w2_w90 := Lib.hid (Agg.belowThen K_w2_w89.out (Nat.le_refl _) hx)
      have K_w57_w90 := Lib.hid (Agg.belowThen K_w57_w89.out (Nat.le_refl _) hx)
      have K_w59_w90 := Lib.hid (Agg.belowThen K_w59_w89.out (Nat.le_refl _) hx)
      have K_w60_w90 := Lib.hid (Agg.belowThen K_w60_w89.out (Nat.le_refl _) hx)
      have K_w61_w90 := Lib.hid (Agg.belowThen K_w61_w89.out (Nat.le_refl _) hx)
      have K_w65_w90 := Lib.hid (Agg.belowThen K_w65_w89.out (Nat.le_refl _) hx)
      have K_w66_w90 := Lib.hid (Agg.belowThen K_w66_w89.out (Nat.le_refl _) hx)
      have K_w81_w90 := Lib.hid (Agg.belowThen K_w81_w89.out (Nat.le_refl _) hx)
      have K_w83_w90 := Lib.hid (Agg.belowThen K_w83_w89.out (Nat.le_refl _) hx)
      have K_w84_w90 := Lib.hid (Agg.belowThen K_w84_w89.out (Nat.le_refl _) hx)
      have K_w85_w90 := Lib.hid (Agg.belowThen K_w85_w89.out (Nat.le_refl _) hx)
      have K_w89_w90 := Lib.hid (Agg.belowThen K_w89_w89.out (Nat.le_refl _) hx)
      have HVMM := Lib.hid hown.slice
      have K_w90_w90 := Lib.hid (Below.refl w90.heap.size w90)
      clear hown hx
      go_wp2_with (first | (refine Agg.wpList_new rfl rfl rfl 49 20 148 rfl rfl rfl (by decide) (rpG 0 z20 [] z20 0 (.slice none 0 0) 0) (rpG 0 z20 [] z20 0 vm 0) rp_zero (by rw [rpG_size z20_length z20_length, rpG_size z20_length z20_length]) (rp_info z20_length z20_length) (rp_one HVMM.out _ _ _ _ _ _) rfl (by first | (simp; done) | simp [Act.put]) ?_; intro g20 w91 hb hx hg; have K_w_w91 := Lib.hid (Agg.belowThen K_w_w90.out (Nat.le_refl _) hx); have K_w2_w91 := Lib.hid (Agg.belowThen K_w2_w90.out (Nat.le_refl _) hx); have K_w57_w91 := Lib.hid (Agg.belowThen K_w57_w90.out (Nat.le_refl _) hx); have K_w59_w91 := Lib.hid (Agg.belowThen K_w59_w90.out (Nat.le_refl _) hx); have K_w60_w91 := Lib.hid (Agg.belowThen K_w60_w90.out (Nat.le_refl _) hx); have K_w61_w91 := Lib.hid (Agg.belowThen K_w61_w90.out (Nat.le_refl _) hx); have K_w65_w91 := Lib.hid (Agg.belowThen K_w65_w90.out (Nat.le_refl _) hx); have K_w66_w91 := Lib.hid (Agg.belowThen K_w66_w90.out (Nat.le_refl _) hx); have K_w81_w91 := Lib.hid (Agg.belowThen K_w81_w90.out (Nat.le_refl _) hx); have K_w83_w91 := Lib.hid (Agg.belowThen K_w83_w90.out (Nat.le_refl _) hx); have K_w84_w91 := Lib.hid (Agg.belowThen K_w84_w90.out (Nat.le_refl _) hx); have K_w85_w91 := Lib.hid (Agg.belowThen K_w85_w90.out (Nat.le_refl _) hx); have K_w89_w91 := Lib.hid (Agg.belowThen K_w89_w90.out (Nat.le_refl _) hx); have K_w90_w91 := Lib.hid (Agg.belowThen K_w90_w90.out (Nat.le_refl _) hx); clear hb hx hg) | (with_reducible refine Agg.wpList_loadL (RpG.of_blk (HB16.out.below K_w84_w91.out) hrl hrc).all rfl _ rfl rfl ?_) | (with_reducible refine Agg.wpList_loadL (RpG.of_blk (HBS.out.below K_w2_w91.out) hrl hrc).all rfl _ rfl rfl ?_))
      refine (sameRp_any e g mm rph rpn rch vg l hrl hrc e g mm rph rpn rch pv l hrl hrc hll hll _ (HVG.out.below K_w83_w91.out) (HP.out.below K_w_w91.out)).mono ?_
      rintro x w92 ⟨rfl, hx⟩
      have K_w_w92 := Lib.hid (Agg.belowThen K_w_w91.out (Nat.le_refl _) hx)
      have K_w2_w92 := Lib.hid (Agg.belowThen K_w2_w91.out (Nat.le_refl _) hx)
      have K_w57_w92 := Lib.hid (Agg.belowThen K_w57_w91.out (Nat.le_refl _) hx)
      have K_w59_w92 := Lib.hid (Agg.belowThen K_w59_w91.out (Nat.le_refl _) hx)
      have K_w60_w92 := Lib.hid (Agg.belowThen K_w60_w91.out (Nat.le_refl _) hx)
      have K_w61_w92 := Lib.hid (Agg.belowThen K_w61_w91.out (Nat.le_refl _) hx)
      have K_w65_w92 := Lib.hid (Agg.belowThen K_w65_w91.out (Nat.le_refl _) hx)
      have K_w66_w92 := Lib.hid (Agg.belowThen K_w66_w91.out (Nat.le_refl _) hx)
      have K_w81_w92 := Lib.hid (Agg.belowThen K_w81_w91.out (Nat.le_refl _) hx)
      have K_w83_w92 := Lib.hid (Agg.belowThen K_w83_w91.out (Nat.le_refl _) hx)
      have K_w84_w92 := Lib.hid (Agg.belowThen K_w84_w91.out (Nat.le_refl _) hx)
      have K_w85_w92 := Lib.hid (Agg.belowThen K_w85_w91.out (Nat.le_refl _) hx)
      have K_w89_w92 := Lib.hid (Agg.belowThen K_w89_w91.out (Nat.le_refl _) hx)
      have K_w90_w92 := Lib.hid (Agg.belowThen K_w90_w91.out (Nat.le_refl _) hx)
      rw [(sameRp_eq _ _).2 rfl]
      clear hx hsl
      go_wp2_with fail
      obtain ⟨a1, a2, a3, a4, a5, a6, a7, a8⟩ := q2
      obtain ⟨c1, c2, c3, c4, c5, c6, c7⟩ := p2
      have HA6 := Lib.hid (show a6.length = 20 from HH2.out.1)
      have HA8 := Lib.hid (show a8.length = 20 from HH2.out.2)
      have HC2H := Lib.hid (show c2.length = 20 from HI2.out.1)
      have HC4H := Lib.hid (show c4.length = 20 from HI2.out.2)
      refine (rget_of ⟨HQ2.out, HE2.out⟩ v m0 _ (by omega) ((K_w_w92.out.cell (p := ⟨0, 0, none⟩) hbm).trans HM.out) (HV.out.below K_w_w92.out)).mono ?_
      rintro x w93 ⟨vc, rfl, hown, hx⟩
      have K_w_w93 := Lib.hid (Agg.belowThen K_w_w92.out (Nat.le_refl _) hx)
      have K_w2_w93 := Lib.hid (Agg.belowThen K_w2_w92.out (Nat.le_refl _) hx)
      have K_w57_w93 := Lib.hid (Agg.belowThen K_w57_w92.out (Nat.le_refl _) hx)
      have K_w59_w93 := Lib.hid (Agg.belowThen K_w59_w92.out (Nat.le_refl _) hx)
      have K_w60_w93 := Lib.hid (Agg.belowThen K_w60_w92.out (Nat.le_refl _) hx)
      have K_w61_w93 := Lib.hid (Agg.belowThen K_w61_w92.out (Nat.le_refl _) hx)
      have K_w65_w93 := Lib.hid (Agg.belowThen K_w65_w92.out (Nat.le_refl _) hx)
      have K_w66_w93 := Lib.hid (Agg.belowThen K_w66_w92.out (Nat.le_refl _) hx)
      have K_w81_w93 := Lib.hid (Agg.belowThen K_w81_w92.out (Nat.le_refl _) hx)
      have K_w83_w93 := Lib.hid (Agg.belowThen K_w83_w92.out (Nat.le_refl _) hx)
      have K_w84_w93 := Lib.hid (Agg.belowThen K_w84_w92.out (Nat.le_refl _) hx)
      have K_w85_w93 := Lib.hid (Agg.belowThen K_w85_w92.out (Nat.le_refl _) hx)
      have K_w89_w93 := Lib.hid (Agg.belowThen K_w89_w92.out (Nat.le_refl _) hx)
      have K_w90_w93 := Lib.hid (Agg.belowThen K_w90_w92.out (Nat.le_refl _) hx)
      have HVC := Lib.hid hown.slice
      have K_w93_w93 := Lib.hid (Below.refl w93.heap.size w93)
      clear hown hx
      go_wp2_with (first | (refine Agg.wpList_new rfl rfl rfl 46 22 169 rfl rfl rfl (by decide) (rqG 0 0 0 [] (.slice none 0 0) z20 [] z20) (rqG a1 a2 a3 a4 vc a6 a7 a8) rq_zero (by rw [rqG_size z20_length z20_length, rqG_size HA6.out HA8.out]) (rq_info HA6.out HA8.out) (rq_one HVC.out _ _ _ _ _ _ _) rfl (by first | (simp; done) | simp [Act.put]) ?_; intro g22 w94 hb hx hg; have HB22 := Lib.hid hb; have K_w_w94 := Lib.hid (Agg.belowThen K_w_w93.out (Nat.le_refl _) hx); have K_w2_w94 := Lib.hid (Agg.belowThen K_w2_w93.out (Nat.le_refl _) hx); have K_w57_w94 := Lib.hid (Agg.belowThen K_w57_w93.out (Nat.le_refl _) hx); have K_w59_w94 := Lib.hid (Agg.belowThen K_w59_w93.out (Nat.le_refl _) hx); have K_w60_w94 := Lib.hid (Agg.belowThen K_w60_w93.out (Nat.le_refl _) hx); have K_w61_w94 := Lib.hid (Agg.belowThen K_w61_w93.out (Nat.le_refl _) hx); have K_w65_w94 := Lib.hid (Agg.belowThen K_w65_w93.out (Nat.le_refl _) hx); have K_w66_w94 := Lib.hid (Agg.belowThen K_w66_w93.out (Nat.le_refl _) hx); have K_w81_w94 := Lib.hid (Agg.belowThen K_w81_w93.out (Nat.le_refl _) hx); have K_w83_w94 := Lib.hid (Agg.belowThen K_w83_w93.out (Nat.le_refl _) hx); have K_w84_w94 := Lib.hid (Agg.belowThen K_w84_w93.out (Nat.le_refl _) hx); have K_w85_w94 := Lib.hid (Agg.belowThen K_w85_w93.out (Nat.le_refl _) hx); have K_w89_w94 := Lib.hid (Agg.belowThen K_w89_w93.out (Nat.le_refl _) hx); have K_w90_w94 := Lib.hid (Agg.belowThen K_w90_w93.out (Nat.le_refl _) hx); have K_w93_w94 := Lib.hid (Agg.belowThen K_w93_w93.out (Nat.le_refl _) hx); clear hb hx hg))
      have K_w94_w94 := Lib.hid (Below.refl w94.heap.size w94)
      refine (rgetp_of ⟨HP2.out, HF2.out⟩ v m0 _ (by omega) ((K_w_w94.out.cell (p := ⟨0, 0, none⟩) hbm).trans HM.out) (HV.out.below K_w_w94.out)).mono ?_
      rintro x w95 ⟨pc, rfl, hown, hx⟩
      have K_w_w95 := Lib.hid (Agg.belowThen K_w_w94.out (Nat.le_refl _) hx)
      have K_w2_w95 := Lib.hid (Agg.belowThen K_w2_w94.out (Nat.le_refl _) hx)
      have K_w57_w95 := Lib.hid (Agg.belowThen K_w57_w94.out (Nat.le_refl _) hx)
      have K_w59_w95 := Lib.hid (Agg.belowThen K_w59_w94.out (Nat.le_refl _) hx)
      have K_w60_w95 := Lib.hid (Agg.belowThen K_w60_w94.out (Nat.le_refl _) hx)
      have K_w61_w95 := Lib.hid (Agg.belowThen K_w61_w94.out (Nat.le_refl _) hx)
      have K_w65_w95 := Lib.hid (Agg.belowThen K_w65_w94.out (Nat.le_refl _) hx)
      have K_w66_w95 := Lib.hid (Agg.belowThen K_w66_w94.out (Nat.le_refl _) hx)
      have K_w81_w95 := Lib.hid (Agg.belowThen K_w81_w94.out (Nat.le_refl _) hx)
      have K_w83_w95 := Lib.hid (Agg.belowThen K_w83_w94.out (Nat.le_refl _) hx)
      have K_w84_w95 := Lib.hid (Agg.belowThen K_w84_w94.out (Nat.le_refl _) hx)
      have K_w85_w95 := Lib.hid (Agg.belowThen K_w85_w94.out (Nat.le_refl _) hx)
      have K_w89_w95 := Lib.hid (Agg.belowThen K_w89_w94.out (Nat.le_refl _) hx)
      have K_w90_w95 := Lib.hid (Agg.belowThen K_w90_w94.out (Nat.le_refl _) hx)
      have K_w93_w95 := Lib.hid (Agg.belowThen K_w93_w94.out (Nat.le_refl _) hx)
      have K_w94_w95 := Lib.hid (Agg.belowThen K_w94_w94.out (Nat.le_refl _) hx)
      have HPC := Lib.hid hown.slice
      have K_w95_w95 := Lib.hid (Below.refl w95.heap.size w95)
      clear hown hx
      go_wp2_with (first | (refine Agg.wpList_new rfl rfl rfl 49 24 174 rfl rfl rfl (by decide) (rpG 0 z20 [] z20 0 (.slice none 0 0) 0) (rpG c1 c2 c3 c4 c5 pc c7) rp_zero (by rw [rpG_size z20_length z20_length, rpG_size HC2H.out HC4H.out]) (rp_info HC2H.out HC4H.out) (rp_one HPC.out _ _ _ _ _ _) rfl (by first | (simp; done) | simp [Act.put]) ?_; intro g24 w96 hb hx hg; have HB24 := Lib.hid hb; have K_w_w96 := Lib.hid (Agg.belowThen K_w_w95.out (Nat.le_refl _) hx); have K_w2_w96 := Lib.hid (Agg.belowThen K_w2_w95.out (Nat.le_refl _) hx); have K_w57_w96 := Lib.hid (Agg.belowThen K_w57_w95.out (Nat.le_refl _) hx); have K_w59_w96 := Lib.hid (Agg.belowThen K_w59_w95.out (Nat.le_refl _) hx); have K_w60_w96 := Lib.hid (Agg.belowThen K_w60_w95.out (Nat.le_refl _) hx); have K_w61_w96 := Lib.hid (Agg.belowThen K_w61_w95.out (Nat.le_refl _) hx); have K_w65_w96 := Lib.hid (Agg.belowThen K_w65_w95.out (Nat.le_refl _) hx); have K_w66_w96 := Lib.hid (Agg.belowThen K_w66_w95.out (Nat.le_refl _) hx); have K_w81_w96 := Lib.hid (Agg.belowThen K_w81_w95.out (Nat.le_refl _) hx); have K_w83_w96 := Lib.hid (Agg.belowThen K_w83_w95.out (Nat.le_refl _) hx); have K_w84_w96 := Lib.hid (Agg.belowThen K_w84_w95.out (Nat.le_refl _) hx); have K_w85_w96 := Lib.hid (Agg.belowThen K_w85_w95.out (Nat.le_refl _) hx); have K_w89_w96 := Lib.hid (Agg.belowThen K_w89_w95.out (Nat.le_refl _) hx); have K_w90_w96 := Lib.hid (Agg.belowThen K_w90_w95.out (Nat.le_refl _) hx); have K_w93_w96 := Lib.hid (Agg.belowThen K_w93_w95.out (Nat.le_refl _) hx); have K_w94_w96 := Lib.hid (Agg.belowThen K_w94_w95.out (Nat.le_refl _) hx); have K_w95_w96 := Lib.hid (Agg.belowThen K_w95_w95.out (Nat.le_refl _) hx); clear hb hx hg) | (with_reducible refine Agg.wpList_loadL (RqG.of_blk (HB22.out.below K_w94_w96.out) HA6.out HA8.out).all rfl _ rfl rfl ?_))
      have K_w96_w96 := Lib.hid (Below.refl w96.heap.size w96)
      refine (rput_of ⟨HQC.out, HQB.out⟩ vc HA6.out HA8.out _ (HVC.out.below K_w93_w96.out)).mono ?_
      rintro x w97 ⟨vz, rfl, hown, hx⟩
      have K_w_w97 := Lib.hid (Agg.belowThen K_w_w96.out (Nat.le_refl _) hx)
      have K_w2_w97 := Lib.hid (Agg.belowThen K_w2_w96.out (Nat.le_refl _) hx)
      have K_w57_w97 := Lib.hid (Agg.belowThen K_w57_w96.out (Nat.le_refl _) hx)
      have K_w59_w97 := Lib.hid (Agg.belowThen K_w59_w96.out (Nat.le_refl _) hx)
      have K_w60_w97 := Lib.hid (Agg.belowThen K_w60_w96.out (Nat.le_refl _) hx)
      have K_w61_w97 := Lib.hid (Agg.belowThen K_w61_w96.out (Nat.le_refl _) hx)
      have K_w65_w97 := Lib.hid (Agg.belowThen K_w65_w96.out (Nat.le_refl _) hx)
      have K_w66_w97 := Lib.hid (Agg.belowThen K_w66_w96.out (Nat.le_refl _) hx)
      have K_w81_w97 := Lib.hid (Agg.belowThen K_w81_w96.out (Nat.le_refl _) hx)
      have K_w83_w97 := Lib.hid (Agg.belowThen K_w83_w96.out (Nat.le_refl _) hx)
      have K_w84_w97 := Lib.hid (Agg.belowThen K_w84_w96.out (Nat.le_refl _) hx)
      have K_w85_w97 := Lib.hid (Agg.belowThen K_w85_w96.out (Nat.le_refl _) hx)
      have K_w89_w97 := Lib.hid (Agg.belowThen K_w89_w96.out (Nat.le_refl _) hx)
      have K_w90_w97 := Lib.hid (Agg.belowThen K_w90_w96.out (Nat.le_refl _) hx)
      have K_w93_w97 := Lib.hid (Agg.belowThen K_w93_w96.out (Nat.le_refl _) hx)
      have K_w94_w97 := Lib.hid (Agg.belowThen K_w94_w96.out (Nat.le_refl _) hx)
      have K_w95_w97 := Lib.hid (Agg.belowThen K_w95_w96.out (Nat.le_refl _) hx)
      have K_w96_w97 := Lib.hid (Agg.belowThen K_w96_w96.out (Nat.le_refl _) hx)
      have HVZ := Lib.hid hown.slice
      have K_w97_w97 := Lib.hid (Below.refl w97.heap.size w97)
      clear hown hx
      go_wp2_with (first | (with_reducible refine Agg.wpList_loadL (RpG.of_blk (HB24.out.below K_w96_w97.out) HC2H.out HC4H.out).all rfl _ rfl rfl ?_))
      refine (pputr_of ⟨HPCO.out, HPB.out⟩ pc HC2H.out HC4H.out (show c6.length ≤ 1048576 from by have h : c6.length ≤ 2000 := HLL.out; omega) _ (HPC.out.below K_w95_w97.out)).mono ?_
      rintro x w98 ⟨vy, rfl, hown, hx⟩
      have K_w_w98 := Lib.hid (Agg.belowThen K_w_w97.out (Nat.le_refl _) hx)
      have K_w2_w98 := Lib.hid (Agg.belowThen K_w2_w97.out (Nat.le_refl _) hx)
      have K_w57_w98 := Lib.hid (Agg.belowThen K_w57_w97.out (Nat.le_refl _) hx)
      have K_w59_w98 := Lib.hid (Agg.belowThen K_w59_w97.out (Nat.le_refl _) hx)
      have K_w60_w98 := Lib.hid (Agg.belowThen K_w60_w97.out (Nat.le_refl _) hx)
      have K_w61_w98 := Lib.hid (Agg.belowThen K_w61_w97.out (Nat.le_refl _) hx)
      have K_w65_w98 := Lib.hid (Agg.belowThen K_w65_w97.out (Nat.le_refl _) hx)
      have K_w66_w98 := Lib.hid (Agg.belowThen K_w66_w97.out (Nat.le_refl _) hx)
      have K_w81_w98 := Lib.hid (Agg.belowThen K_w81_w97.out (Nat.le_refl _) hx)
      have K_w83_w98 := Lib.hid (Agg.belowThen K_w83_w97.out (Nat.le_refl _) hx)
      have K_w84_w98 := Lib.hid (Agg.belowThen K_w84_w97.out (Nat.le_refl _) hx)
      have K_w85_w98 := Lib.hid (Agg.belowThen K_w85_w97.out (Nat.le_refl _) hx)
      have K_w89_w98 := Lib.hid (Agg.belowThen K_w89_w97.out (Nat.le_refl _) hx)
      have K_w90_w98 := Lib.hid (Agg.belowThen K_w90_w97.out (Nat.le_refl _) hx)
      have K_w93_w98 := Lib.hid (Agg.belowThen K_w93_w97.out (Nat.le_refl _) hx)
      have K_w94_w98 := Lib.hid (Agg.belowThen K_w94_w97.out (Nat.le_refl _) hx)
      have K_w95_w98 := Lib.hid (Agg.belowThen K_w95_w97.out (Nat.le_refl _) hx)
      have K_w96_w98 := Lib.hid (Agg.belowThen K_w96_w97.out (Nat.le_refl _) hx)
      have K_w97_w98 := Lib.hid (Agg.belowThen K_w97_w97.out (Nat.le_refl _) hx)
      have HVY := Lib.hid hown.slice
      have K_w98_w98 := Lib.hid (Below.refl w98.heap.size w98)
      clear hown hx
      rcases HC2.out with rfl | ⟨rfl, rfl, hqb⟩
      · rcases HD2.out with rfl | ⟨rfl, rfl, hpb⟩
        · go_wp2_with fail
          go_ret
          exact ⟨rfl, K_w_w98.out⟩
        · rw [hpb] at HVY
          clear hpb
          go_wp2_with fail
          refine (sameBytes_any vy v b b (by omega) (by omega) _ (HVY.out.below K_w98_w98.out) (HV.out.below K_w_w98.out)).mono ?_
          rintro x w99 ⟨rfl, hx⟩
          have K_w_w99 := Lib.hid (Agg.belowThen K_w_w98.out (Nat.le_refl _) hx)
          have K_w2_w99 := Lib.hid (Agg.belowThen K_w2_w98.out (Nat.le_refl _) hx)
          have K_w57_w99 := Lib.hid (Agg.belowThen K_w57_w98.out (Nat.le_refl _) hx)
          have K_w59_w99 := Lib.hid (Agg.belowThen K_w59_w98.out (Nat.le_refl _) hx)
          have K_w60_w99 := Lib.hid (Agg.belowThen K_w60_w98.out (Nat.le_refl _) hx)
          have K_w61_w99 := Lib.hid (Agg.belowThen K_w61_w98.out (Nat.le_refl _) hx)
          have K_w65_w99 := Lib.hid (Agg.belowThen K_w65_w98.out (Nat.le_refl _) hx)
          have K_w66_w99 := Lib.hid (Agg.belowThen K_w66_w98.out (Nat.le_refl _) hx)
          have K_w81_w99 := Lib.hid (Agg.belowThen K_w81_w98.out (Nat.le_refl _) hx)
          have K_w83_w99 := Lib.hid (Agg.belowThen K_w83_w98.out (Nat.le_refl _) hx)
          have K_w84_w99 := Lib.hid (Agg.belowThen K_w84_w98.out (Nat.le_refl _) hx)
          have K_w85_w99 := Lib.hid (Agg.belowThen K_w85_w98.out (Nat.le_refl _) hx)
          have K_w89_w99 := Lib.hid (Agg.belowThen K_w89_w98.out (Nat.le_refl _) hx)
          have K_w90_w99 := Lib.hid (Agg.belowThen K_w90_w98.out (Nat.le_refl _) hx)
          have K_w93_w99 := Lib.hid (Agg.belowThen K_w93_w98.out (Nat.le_refl _) hx)
          have K_w94_w99 := Lib.hid (Agg.belowThen K_w94_w98.out (Nat.le_refl _) hx)
          have K_w95_w99 := Lib.hid (Agg.belowThen K_w95_w98.out (Nat.le_refl _) hx)
          have K_w96_w99 := Lib.hid (Agg.belowThen K_w96_w98.out (Nat.le_refl _) hx)
          have K_w97_w99 := Lib.hid (Agg.belowThen K_w97_w98.out (Nat.le_refl _) hx)
          have K_w98_w99 := Lib.hid (Agg.belowThen K_w98_w98.out (Nat.le_refl _) hx)
          rw [show decide (b = b) = true from decide_eq_true rfl]
          clear hx
          go_wp2_with fail
          go_ret
          exact ⟨rfl, K_w_w99.out⟩
      · rw [hqb] at HVZ
        clear hqb
        rcases HD2.out with rfl | ⟨rfl, rfl, hpb⟩
        · go_wp2_with fail
          refine (sameBytes_any vz v b b (by omega) (by omega) _ (HVZ.out.below K_w97_w98.out) (HV.out.below K_w_w98.out)).mono ?_
          rintro x w100 ⟨rfl, hx⟩
          have K_w_w100 := Lib.hid (Agg.belowThen K_w_w98.out (Nat.le_refl _) hx)
          have K_w2_w100 := Lib.hid (Agg.belowThen K_w2_w98.out (Nat.le_refl _) hx)
          have K_w57_w100 := Lib.hid (Agg.belowThen K_w57_w98.out (Nat.le_refl _) hx)
          have K_w59_w100 := Lib.hid (Agg.belowThen K_w59_w98.out (Nat.le_refl _) hx)
          have K_w60_w100 := Lib.hid (Agg.belowThen K_w60_w98.out (Nat.le_refl _) hx)
          have K_w61_w100 := Lib.hid (Agg.belowThen K_w61_w98.out (Nat.le_refl _) hx)
          have K_w65_w100 := Lib.hid (Agg.belowThen K_w65_w98.out (Nat.le_refl _) hx)
          have K_w66_w100 := Lib.hid (Agg.belowThen K_w66_w98.out (Nat.le_refl _) hx)
          have K_w81_w100 := Lib.hid (Agg.belowThen K_w81_w98.out (Nat.le_refl _) hx)
          have K_w83_w100 := Lib.hid (Agg.belowThen K_w83_w98.out (Nat.le_refl _) hx)
          have K_w84_w100 := Lib.hid (Agg.belowThen K_w84_w98.out (Nat.le_refl _) hx)
          have K_w85_w100 := Lib.hid (Agg.belowThen K_w85_w98.out (Nat.le_refl _) hx)
          have K_w89_w100 := Lib.hid (Agg.belowThen K_w89_w98.out (Nat.le_refl _) hx)
          have K_w90_w100 := Lib.hid (Agg.belowThen K_w90_w98.out (Nat.le_refl _) hx)
          have K_w93_w100 := Lib.hid (Agg.belowThen K_w93_w98.out (Nat.le_refl _) hx)
          have K_w94_w100 := Lib.hid (Agg.belowThen K_w94_w98.out (Nat.le_refl _) hx)
          have K_w95_w100 := Lib.hid (Agg.belowThen K_w95_w98.out (Nat.le_refl _) hx)
          have K_w96_w100 := Lib.hid (Agg.belowThen K_w96_w98.out (Nat.le_refl _) hx)
          have K_w97_w100 := Lib.hid (Agg.belowThen K_w97_w98.out (Nat.le_refl _) hx)
          have K_w98_w100 := Lib.hid (Agg.belowThen K_w98_w98.out (Nat.le_refl _) hx)
          rw [show decide (b = b) = true from decide_eq_true rfl]
          clear hx
          go_wp2_with fail
          go_ret
          exact ⟨rfl, K_w_w100.out⟩
        · rw [hpb] at HVY
          clear hpb
          go_wp2_with fail
          refine (sameBytes_any vz v b b (by omega) (by omega) _ (HVZ.out.below K_w97_w98.out) (HV.out.below K_w_w98.out)).mono ?_
          rintro x w101 ⟨rfl, hx⟩
          have K_w_w101 := Lib.hid (Agg.belowThen K_w_w98.out (Nat.le_refl _) hx)
          have K_w2_w101 := Lib.hid (Agg.belowThen K_w2_w98.out (Nat.le_refl _) hx)
          have K_w57_w101 := Lib.hid (Agg.belowThen K_w57_w98.out (Nat.le_refl _) hx)
          have K_w59_w101 := Lib.hid (Agg.belowThen K_w59_w98.out (Nat.le_refl _) hx)
          have K_w60_w101 := Lib.hid (Agg.belowThen K_w60_w98.out (Nat.le_refl _) hx)
          have K_w61_w101 := Lib.hid (Agg.belowThen K_w61_w98.out (Nat.le_refl _) hx)
          have K_w65_w101 := Lib.hid (Agg.belowThen K_w65_w98.out (Nat.le_refl _) hx)
          have K_w66_w101 := Lib.hid (Agg.belowThen K_w66_w98.out (Nat.le_refl _) hx)
          have K_w81_w101 := Lib.hid (Agg.belowThen K_w81_w98.out (Nat.le_refl _) hx)
          have K_w83_w101 := Lib.hid (Agg.belowThen K_w83_w98.out (Nat.le_refl _) hx)
          have K_w84_w101 := Lib.hid (Agg.belowThen K_w84_w98.out (Nat.le_refl _) hx)
          have K_w85_w101 := Lib.hid (Agg.belowThen K_w85_w98.out (Nat.le_refl _) hx)
          have K_w89_w101 := Lib.hid (Agg.belowThen K_w89_w98.out (Nat.le_refl _) hx)
          have K_w90_w101 := Lib.hid (Agg.belowThen K_w90_w98.out (Nat.le_refl _) hx)
          have K_w93_w101 := Lib.hid (Agg.belowThen K_w93_w98.out (Nat.le_refl _) hx)
          have K_w94_w101 := Lib.hid (Agg.belowThen K_w94_w98.out (Nat.le_refl _) hx)
          have K_w95_w101 := Lib.hid (Agg.belowThen K_w95_w98.out (Nat.le_refl _) hx)
          have K_w96_w101 := Lib.hid (Agg.belowThen K_w96_w98.out (Nat.le_refl _) hx)
          have K_w97_w101 := Lib.hid (Agg.belowThen K_w97_w98.out (Nat.le_refl _) hx)
          have K_w98_w101 := Lib.hid (Agg.belowThen K_w98_w98.out (Nat.le_refl _) hx)
          rw [show decide (b = b) = true from decide_eq_true rfl]
          clear hx
          go_wp2_with fail
          refine (sameBytes_any vy v b b (by omega) (by omega) _ (HVY.out.below K_w98_w101.out) (HV.out.below K_w_w101.out)).mono ?_
          rintro x w102 ⟨rfl, hx⟩
          have K_w_w102 := Lib.hid (Agg.belowThen K_w_w101.out (Nat.le_refl _) hx)
          have K_w2_w102 := Lib.hid (Agg.belowThen K_w2_w101.out (Nat.le_refl _) hx)
          have K_w57_w102 := Lib.hid (Agg.belowThen K_w57_w101.out (Nat.le_refl _) hx)
          have K_w59_w102 := Lib.hid (Agg.belowThen K_w59_w101.out (Nat.le_refl _) hx)
          have K_w60_w102 := Lib.hid (Agg.belowThen K_w60_w101.out (Nat.le_refl _) hx)
          have K_w61_w102 := Lib.hid (Agg.belowThen K_w61_w101.out (Nat.le_refl _) hx)
          have K_w65_w102 := Lib.hid (Agg.belowThen K_w65_w101.out (Nat.le_refl _) hx)
          have K_w66_w102 := Lib.hid (Agg.belowThen K_w66_w101.out (Nat.le_refl _) hx)
          have K_w81_w102 := Lib.hid (Agg.belowThen K_w81_w101.out (Nat.le_refl _) hx)
          have K_w83_w102 := Lib.hid (Agg.belowThen K_w83_w101.out (Nat.le_refl _) hx)
          have K_w84_w102 := Lib.hid (Agg.belowThen K_w84_w101.out (Nat.le_refl _) hx)
          have K_w85_w102 := Lib.hid (Agg.belowThen K_w85_w101.out (Nat.le_refl _) hx)
          have K_w89_w102 := Lib.hid (Agg.belowThen K_w89_w101.out (Nat.le_refl _) hx)
          have K_w90_w102 := Lib.hid (Agg.belowThen K_w90_w101.out (Nat.le_refl _) hx)
          have K_w93_w102 := Lib.hid (Agg.belowThen K_w93_w101.out (Nat.le_refl _) hx)
          have K_w94_w102 := Lib.hid (Agg.belowThen K_w94_w101.out (Nat.le_refl _) hx)
          have K_w95_w102 := Lib.hid (Agg.belowThen K_w95_w101.out (Nat.le_refl _) hx)
          have K_w96_w102 := Lib.hid (Agg.belowThen K_w96_w101.out (Nat.le_refl _) hx)
          have K_w97_w102 := Lib.hid (Agg.belowThen K_w97_w101.out (Nat.le_refl _) hx)
          have K_w98_w102 := Lib.hid (Agg.belowThen K_w98_w101.out (Nat.le_refl _) hx)
          rw [show decide (b = b) = true from decide_eq_true rfl]
          clear hx
          go_wp2_with fail
          go_ret
          exact ⟨rfl, K_w_w102.out⟩
end Go.Proofs.Ytpnolgliklmnmaa
/-! WireBack, its sizes told by sums. -/
namespace Go.Proofs.Ytpnolgliklmnmaa
open Go.RowKit Pl Go.Agg
theorem le_sumP {l : List P20} {x : P20} (h : x ∈ l) : x.1.2.length ≤ (l.map fun p => p.1.2.length).sum := by
  induction l with
  | nil => cases h
  | cons y l ih =>
    simp only [List.map_cons, List.sum_cons]
    rcases List.mem_cons.1 h with rfl | h
    · omega
    · have := ih h
      omega
theorem wireBack_sum (k u wh : Int) (nm : List UInt8) (vb : Value) (bs ph pn ch : List UInt8) (hl : ph.length = 20) (hc : ch.length = 20) (e g mm : Int) (rph rpn rch : List UInt8) (pv : Value) (l : List P20) (hrl : rph.length = 20) (hrc : rch.length = 20) (v : Value) (b : List UInt8) (m0 : Int)
    (h1 : nm.length ≤ 1048576) (h2 : bs.length ≤ 1048576) (h3 : pn.length ≤ 1048576) (h4 : b.length ≤ 1048576) (h5 : rpn.length ≤ 1048576) (hll : l.length ≤ 1048576) (hlx : (l.map fun p => p.1.2.length).sum ≤ 1048576) (w : World) (hm : w.cell? ⟨0, 0, none⟩ = some (.int .i64 m0)) (hb : BytesAt w vb bs) (hp : ElemsAt w pv l) (hv : BytesAt w v b) :
    Calls Try.prog 5 #[.agg (rqG k u wh nm vb ph pn ch), .agg (rpG e rph rpn rch g pv mm), v] w fun x w' => x = .returned (.bool true) ∧ Below w.heap.size w w' :=
  wireBack_any k u wh nm vb bs ph pn ch hl hc e g mm rph rpn rch pv l hrl hrc v b m0 h1 h2 h3 h4 h5 hll (fun _ hx => Nat.le_trans (le_sumP hx) hlx) w hm hb hp hv
end Go.Proofs.Ytpnolgliklmnmaa
/-! A row's argument of bytes, read and laid again; the wrap for a row of the second form with the world's shape. -/
namespace Go.Agg
open Go.RowKit Go.ChangeShapes Go.WideShapes Go.ChangeAt
section
variable {H : Type} {enc : TypeId × Value → H} {P : Program} {w : World} {base : Nat} {sp : Nat → Bool} {held : Bool}
/-- bytes, as data -/
def byteData {H : Type} (l : List UInt8) : List (DataW H) := l.map fun c => .lit (.int .u8 (c.toNat : Int))
theorem open_bytes {t e : TypeId} {n fuel : Nat} {cs : List Value} {x : DataW H × List MemPlace} (ht : P.underlying t = some (.array n e)) (he : P.underlying e = some (.int .u8)) (hc : P.cellsOf e = 1) (hn : P.cellsOf t = n)
    (h : DataW.trod enc P w base sp held fuel t cs = some x) : ∃ l : List UInt8, l.length = n ∧ cs = Lib.byteCells l ∧ x = (.agg (byteData l), []) := by
  obtain ⟨xs, m, rfl, rfl, hl, hx, ha⟩ := DataW.trod_array ht h
  have key : ∀ i, i < n → ∃ c : UInt8, cs[i]? = some (.int .u8 (c.toNat : Int)) ∧ xs[i]? = some (.lit (.int .u8 (c.toNat : Int)), []) := fun i hi => by
    have hxi : xs[i]? = some xs[i] := List.getElem?_eq_getElem (by omega)
    have h1 := (ha i hi).trans hxi
    rw [hc] at h1
    obtain ⟨k, hk, hd, hw⟩ := DataW.trod_int he h1
    have hb := bounds_u8 hw
    refine ⟨UInt8.ofNat k.toNat, ?_, ?_⟩
    · have : (cs.drop (i * 1)).take 1 = [.int .u8 k] := hk
      have h2 := congrArg (·[0]?) this
      simp at h2
      rw [h2]
      simp; omega
    · rw [hxi, hd]
      simp; omega
  have hlen : cs.length = n := hl.trans hn
  refine ⟨cs.map fun | .int _ k => UInt8.ofNat k.toNat | _ => 0, by simp [hlen], ?_, ?_⟩
  · refine List.ext_getElem? fun i => ?_
    by_cases hi : i < n
    · obtain ⟨c, h1, _⟩ := key i hi
      simp [Lib.byteCells, h1]
    · rw [List.getElem?_eq_none (by omega), List.getElem?_eq_none (by simp [Lib.byteCells]; omega)]
  · have hfst : xs.map (·.1) = byteData (cs.map fun | .int _ k => UInt8.ofNat k.toNat | _ => 0) := by
      refine List.ext_getElem? fun i => ?_
      by_cases hi : i < n
      · obtain ⟨c, h1, h2⟩ := key i hi
        simp [byteData, h1, h2]
      · rw [List.getElem?_eq_none (by simp; omega), List.getElem?_eq_none (by simp [byteData]; omega)]
    have hsnd : xs.flatMap (·.2) = [] := by
      rw [List.flatMap_eq_nil_iff]
      intro y hy
      obtain ⟨i, hi, rfl⟩ := List.getElem_of_mem hy
      obtain ⟨c, _, h2⟩ := key i (by omega)
      rw [List.getElem?_eq_getElem hi] at h2
      rw [Option.some.inj h2]
    rw [hfst, hsnd]
theorem mapM_each {β : Type} {f : Nat → Option β} : ∀ (is : List Nat) (ys : List β), is.length = ys.length → (∀ (k i : Nat) (y : β), is[k]? = some i → ys[k]? = some y → f i = some y) → is.mapM f = some ys
  | [], [], _, _ => by simp
  | i :: is, y :: ys, hl, h => by
    have h0 := h 0 i y rfl rfl
    have ih := mapM_each (f := f) is ys (by simpa using hl) (fun k i y hi hy => h (k + 1) i y (by simpa using hi) (by simpa using hy))
    simp [List.mapM_cons, h0, ih]
  | [], _ :: _, hl, _ => by simp at hl
  | _ :: _, [], hl, _ => by simp at hl
theorem shut_bytes {t e : TypeId} {n : Nat} (ht : P.underlying t = some (.array n e)) (he : P.underlying e = some (.int .u8)) (hc : P.cellsOf e = 1) (hn : P.cellsOf t = n) (l : List UInt8) (hl : l.length = n) :
    DataW.trod enc P w base sp held 2 t (Lib.byteCells l) = some (.agg (byteData l), []) := by
  have hm : (List.range n).mapM (fun i => DataW.trod enc P w base sp held 1 e (((Lib.byteCells l).drop (i * P.cellsOf e)).take (P.cellsOf e))) = some (l.map fun c => ((.lit (.int .u8 (c.toNat : Int)) : DataW H), ([] : List MemPlace))) := by
    refine mapM_each _ _ (by simp [hl]) fun k i y hi hy => ?_
    obtain ⟨hk, rfl⟩ := List.getElem?_eq_some_iff.1 hi
    have hk' : k < l.length := by simpa [hl] using hk
    obtain rfl : y = (.lit (.int .u8 (l[k].toNat : Int)), []) := by simpa [hk', eq_comm] using hy
    have : ((Lib.byteCells l).drop (k * 1)).take 1 = [.int .u8 (l[k].toNat : Int)] := by
      apply List.ext_getElem?
      intro j
      cases j with
      | zero => simp [Lib.byteCells, hk']
      | succ j => simp; omega
    rw [List.getElem_range, hc, this]
    have hlt := l[k].toNat_lt
    simp only [DataW.trod, he]
    rw [if_pos ⟨trivial, by simp [Lit.wf, IntKind.min, IntKind.max, IntKind.signed, IntKind.bits]; omega⟩]
  have hcl : (Lib.byteCells l).length = P.cellsOf t := by simp [Lib.byteCells, hl, hn]
  unfold DataW.trod
  rw [ht]
  split <;> simp_all
  · simp [byteData]
end
/-- 'post_of_same' behind a call that keeps what was there -/
theorem post_below {H : Type} {enc : TypeId × Value → H} {P : Program} {f : Func} {s : ChangeSpec} {apart fresh handsOn again : Bool} {W W' : World} {args : Array Value} {v : Value} {ds gs : List (DataW H)} {before pa pv : List MemPlace}
    (hW : DataW.Whole enc P f.params.toList s.vars apart W args.toList ds gs before)
    (hres : ∀ (b : Nat) (sp : Nat → Bool) (hd : Bool), DataW.TrodAll enc P W' b sp hd f.resultTypes.toList (v.resultList f.resultTypes.size) (s.fn H (ds ++ gs)).results [])
    (hargs : ∀ sp : Nat → Bool, (∀ p ∈ before, sp p.block = true) → DataW.TrodAll enc P W' 0 sp true f.params.toList args.toList (s.fn H (ds ++ gs)).args pa)
    (hvars : ∀ sp : Nat → Bool, (∀ p ∈ before, sp p.block = true) → DataW.TrodVars enc P W' sp s.vars (s.fn H (ds ++ gs)).vars pv)
    (hps : before = pa ++ pv) (hg : Below W.heap.size W W')
    (hok : ∀ (j : Nat) (t : TypeId) (r : Value), f.resultTypes[j]? = some t → (v.resultList f.resultTypes.size)[j]? = some r → Value.okWide P W' .any 0 t r) :
    s.post enc P f apart fresh handsOn again W args v W' := by
  have hold : ∀ p ∈ before, (fun b => decide (b < W.heap.size)) p.block = true := fun p hp => by simpa using hW.lt p hp
  refine ⟨ds, gs, before, [], pa, pv, hW, hres _ _ _, hargs _ hold, hvars _ hold, World.keptBut_mono (fun p hp => ⟨hp, ?_⟩) (hg.frame (· ∈ before)), fun _ => ?_⟩
  · rw [hps, List.mem_append] at hp
    exact Or.inr hp
  · have hlt := hW.lt
    obtain ⟨_, _, _, _, _, hz, hn⟩ := hW
    refine ⟨hok, _, _, ([] ++ pa) ++ pv, ⟨[] ++ pa, pv, trodAll_append (hargs _ (fun _ _ => rfl)) (hres _ _ _), hvars _ (fun _ _ => rfl), rfl, ?_, ?_⟩, ?_⟩
    · intro b off hp
      have hp' : MemPlace.cell b off ∈ before := by rw [hps]; simpa using hp
      rw [hg.frozen (hlt _ hp')]
      exact hz b off hp'
    · intro ha
      have := hn ha
      rw [hps] at this
      simpa using this
    · intro p hp _
      rw [hps]
      simpa using hp
/-- 'returnsInHanded_of_cond', the world's shape kept -/
theorem handed_cond_shaped {H : Type} {enc : TypeId × Value → H} {a : Assume} {C : Checked} {os : Os} {f : FuncId} {fn : Func} {s : OpenSpec} {k : (H : Type) → List (DataW H) → Bool} (hk : s.cond = some k) {F : Stop.Interp} {conds : List PathCond} {apart fresh handsOn again : Bool}
    (own : ownKnob C.prog.godebug = none) (started : os.Started) (noInit : C.prog.inits.idxOf? f = none) (hfn : C.prog.funcs[f]? = some fn)
    (witness : ∃ (w : World) (tape : Tape) (i : Input), w.os = os ∧ (w.forCall tape i).Shaped C.prog ∧ i.vars = [] ∧ Input.okWide C.prog (w.forCall tape i) .any w.heap.size f i ∧
      s.pre6 enc C.prog fn conds apart (w.forCall tape i).memory i.args ∧ a.holds C.prog (lone (Frame.enter C.prog f i.args .normal) [] (w.forCall tape i)))
    (contract : ∀ (W : World) (base : Nat) (args : Array Value) (ds gs : List (DataW H)) (before : List MemPlace),
      (∀ (j : Nat) t v, fn.params[j]? = some t → args[j]? = some v → Value.okWide C.prog W .any base t v) →
      DataW.Whole enc C.prog fn.params.toList s.vars apart W args.toList ds gs before → k H (ds ++ gs) = true → W.ShapedOpen C.prog →
      Calls C.prog f args W fun e W' => ∃ v, e = .returned v ∧ (s.at F).post enc C.prog fn apart fresh handsOn again W args v W') :
    ReturnsInHanded a C os f .any (s.pre6 enc C.prog fn conds apart) ((s.at F).post enc C.prog fn apart fresh handsOn again) := by
  refine returnsInHanded_of_calls own started noInit witness ?_
  intro w tape i _ hsh _ hok hpre _
  obtain ⟨_, _, _, fn', hfn', _, _, _, _, hval⟩ := hok
  obtain rfl : fn' = fn := Option.some.inj (hfn'.symm.trans hfn)
  obtain ⟨ds, gs, before, hw, _, hkk⟩ := (OpenSpec.pre_some hk conds apart _ _).1 hpre.1
  refine (contract (w.forCall tape i) w.heap.size i.args ds gs before hval (DataW.Whole.of_heap (w' := w.forCall tape i) (by rfl) hw) hkk hsh).mono fun e W' ⟨v, he, hp⟩ => ?_
  subst he
  exact ChangeSpec.post_blind hp
end Go.Agg
/-! A law that returns true and keeps all that was there: its row's proof; slices, bytes as arguments. -/
namespace Go.Agg
open Go.RowKit Go.ChangeShapes Go.WideShapes Go.ChangeAt
section
variable {H : Type} {enc : TypeId × Value → H} {P : Program}
theorem trodAll_stays (hl : laidOutB P = true) : ∀ {ts : List TypeId}, (∀ t ∈ ts, P.readableRec t = true ∧ t < P.types.size) → ∀ {W W' : World} {base : Nat} {sp' : Nat → Bool} {vs : List Value} {ds : List (DataW H)} {ps : List MemPlace},
    DataW.TrodAll enc P W base (fun _ => true) true ts vs ds ps → (∀ p ∈ ps, W.sameAt W' p) → (∀ p ∈ ps, sp' p.block = true) → DataW.TrodAll enc P W' base sp' true ts vs ds ps
  | [], _, _, _, _, _, _, _, _, h, _, _ => by
    obtain ⟨rfl, rfl, rfl⟩ := trodAll_nil h
    exact trodAll_mk0
  | t :: ts, hr, _, _, _, _, _, _, _, h, hs, hp => by
    obtain ⟨v, vs', d, ds', p, q, rfl, rfl, rfl, h1, h2⟩ := trodAll_cons h
    exact trodAll_cons_mk (WideElems.Trod_stays hl (hr t (by simp)).1 (hr t (by simp)).2 h1 (fun x hx => hs x (by simp [hx])) (fun x hx => hp x (by simp [hx])))
      (trodAll_stays hl (fun t ht => hr t (by simp [ht])) h2 (fun x hx => hs x (by simp [hx])) (fun x hx => hp x (by simp [hx])))
/-- what a law's row says behind a call that returned true and kept what was there -/
theorem post_law {f : Func} {s : ChangeSpec} {apart fresh handsOn again : Bool} {W W' : World} {args : Array Value} {ds gs : List (DataW H)} {before : List MemPlace} {bt : TypeId}
    (hW : DataW.Whole enc P f.params.toList s.vars apart W args.toList ds gs before) (hv : s.vars = []) (hl : laidOutB P = true) (hr : ∀ t ∈ f.params.toList, P.readableRec t = true ∧ t < P.types.size)
    (hfr : (s.fn H (ds ++ gs)).results = [.lit (.bool true)]) (hfa : (s.fn H (ds ++ gs)).args = ds) (hfv : (s.fn H (ds ++ gs)).vars = []) (hrt : f.resultTypes = #[bt]) (hbt : P.underlying bt = some .bool) (hg : Below W.heap.size W W') :
    s.post enc P f apart fresh handsOn again W args (.bool true) W' := by
  obtain ⟨p, q, hA, hV, rfl, hfz, hnd⟩ := id hW
  rw [hv] at hV
  obtain ⟨rfl, rfl⟩ := trodVars_none hV
  have hlt := hW.lt
  have hst : ∀ sp : Nat → Bool, (∀ x ∈ p ++ [], sp x.block = true) → DataW.TrodAll enc P W' 0 sp true f.params.toList args.toList ds p := fun sp hsp =>
    trodAll_stays hl hr hA (fun x hx => hg.same (hlt x (by simp [hx]))) (fun x hx => hsp x (by simp [hx]))
  refine post_below (pa := p) (pv := []) hW ?_ (fun sp hsp => by rw [hfa]; exact hst sp hsp) (fun sp hsp => by rw [hfv, hv]; rfl) rfl hg ?_
  · intro b sp hd
    rw [hfr, hrt]
    exact trodAll_mk1 (shut_bool hbt _)
  · exact ok_one hrt rfl (okWide_bool_mk hbt _)
end
/-- elements, and how they read -/
structure ElemD (P : Program) (α : Type) extends Elem P α where
  cellsOf : P.cellsOf ty = n
  data : (H : Type) → α → DataW H
  open_ : ∀ (H : Type) (enc : TypeId × Value → H) (w : World) (base : Nat) (sp : Nat → Bool) (held : Bool) (fuel : Nat) (cs : List Value) (x : DataW H × List MemPlace),
    DataW.trod enc P w base sp held fuel ty cs = some x → ∃ a, cs = (val a).cells.toList ∧ x = (data H a, [])
theorem open_sliceE {P : Program} {α : Type} [Inhabited α] (E : ElemD P α) {H : Type} {enc : TypeId × Value → H} {w : World} {base : Nat} {sp : Nat → Bool} {held : Bool} {fuel : Nat} {cs : List Value} {x : DataW H × List MemPlace}
    (h : DataW.trod enc P w base sp held fuel E.st cs = some x) : ∃ (v : Value) (l : List α), cs = [v] ∧ SliceOf E.toElem w v l ∧ ((l = [] ∧ x.1 = .nil) ∨ ∃ rest, x.1 = .slice (l.map (E.data H)) rest) := by
  rcases Go.Deep.open_slice E.slice h with ⟨rfl, rfl⟩ | ⟨a, len, cap, m, n, D, Pl, rfl, _, hlc, _, hm, rfl, hel⟩
  · exact ⟨_, [], rfl, SliceOf.nil _ _ _, .inl ⟨rfl, rfl⟩⟩
  · have hlm : len ≤ m := by rw [hm]; split <;> omega
    have each : ∀ i, i < len → ∃ b : α, (∀ j u, (E.val b).cells[j]? = some u → w.cell? ((a.add (i * E.n)).add j) = some u) ∧ D i = E.data H b := fun i hi => by
      obtain ⟨cs', hc, ht⟩ := hel i (by omega)
      rw [E.cellsOf] at hc
      obtain ⟨b, rfl, hx⟩ := E.open_ H enc w base sp held n cs' _ ht
      obtain ⟨_, hcl, hat⟩ := World.cells?_some hc
      refine ⟨b, fun j u hj => ?_, congrArg Prod.fst hx⟩
      have hjn : j < E.n := by have := (Array.getElem?_eq_some_iff.1 hj).1; rw [E.size] at this; exact this
      rw [hat j hjn]
      simpa using hj
    obtain ⟨f, hf⟩ := Go.Deep.choose_lt each
    refine ⟨_, (List.range len).map f, rfl, ?_, .inr ⟨(List.range (m - len)).map fun j => D (len + j), ?_⟩⟩
    · by_cases h0 : len = 0
      · subst h0; exact SliceOf.nil _ _ _
      · have hb : a.block < w.heap.size := by
          have hpos := E.pos
          have hc0 := (hf 0 (by omega)).1 0 _ (Array.getElem?_eq_getElem (by rw [E.size]; exact hpos))
          have := block_lt_of_cell hc0
          rwa [add_block, add_block] at this
        refine .inr ⟨a, cap, by simp, hb, fun j u hj => ?_⟩
        obtain ⟨k, b, i, h1, h2, rfl⟩ := Elem.flat_all E.toElem _ j u hj
        obtain ⟨hk, hkb⟩ := List.getElem?_eq_some_iff.1 h1
        have hkl : k < len := by simpa using hk
        have hfb : f k = b := by simpa using hkb
        subst hfb
        rw [← add_add]
        exact (hf k hkl).1 i u h2
    · simp only [List.map_map]
      congr 1
      refine List.map_congr_left fun i hi => ?_
      exact (hf i (List.mem_range.1 hi)).2
end Go.Agg
namespace Go.Proofs.Ytpnolgliklmnmaa
open Go.RowKit Go.Agg Go.ChangeMaps Go.ChangeShapes Go.WideShapes
theorem own : ownKnob Try.prog.godebug = none := by kernel_rfl
theorem cells_byte : Try.prog.cellsOf 5 = 1 := by kernel_rfl
theorem laidOut : laidOutB Try.prog = true := by kernel_rfl
theorem bulkAll_append {H : Type} (a b : List (DataW H)) : Rows.uptoBulkAll (a ++ b) = Rows.uptoBulkAll a + Rows.uptoBulkAll b := by
  induction a with
  | nil => simp [Rows.uptoBulkAll]
  | cons d a ih => simp only [List.cons_append, Rows.uptoBulkAll, ih]; omega
theorem bulkAll_map {H : Type} {α : Type} (f : α → DataW H) (sz : α → Nat) (h : ∀ a, sz a + 1 ≤ Rows.uptoBulk (f a)) (l : List α) : (l.map sz).sum + l.length ≤ Rows.uptoBulkAll (l.map f) := by
  induction l with
  | nil => simp [Rows.uptoBulkAll]
  | cons a l ih =>
    have := h a
    simp only [List.map_cons, List.sum_cons, List.length_cons, Rows.uptoBulkAll]; omega
theorem bulk_slice {H : Type} {α : Type} {x : DataW H} {l : List α} {f : α → DataW H} (hx : (l = [] ∧ x = .nil) ∨ ∃ rest, x = .slice (l.map f) rest) (sz : α → Nat) (h : ∀ a, sz a + 1 ≤ Rows.uptoBulk (f a)) : (l.map sz).sum + l.length + 1 ≤ Rows.uptoBulk x := by
  rcases hx with ⟨rfl, rfl⟩ | ⟨rest, rfl⟩
  · simp [Rows.uptoBulk]
  · have := bulkAll_map f sz h l
    simp only [Rows.uptoBulk]; omega
/-- bytes, read -/
def DB : ElemD Try.prog UInt8 where
  toElem := EB
  cellsOf := cells_byte
  data := fun _ c => .lit (.int .u8 (c.toNat : Int))
  open_ := fun H enc w base sp held fuel cs x h => by
    obtain ⟨k, rfl, e2, hw⟩ := DataW.trod_int Try.underlying5 h
    have hb := bounds_u8 hw
    refine ⟨UInt8.ofNat k.toNat, ?_, ?_⟩
    · have : ((UInt8.ofNat k.toNat).toNat : Int) = k := by simp; omega
      show [Value.int .u8 k] = [Value.int .u8 ((UInt8.ofNat k.toNat).toNat : Int)]
      rw [this]
    · have : ((UInt8.ofNat k.toNat).toNat : Int) = k := by simp; omega
      rw [e2, this]
theorem bulk_byte {H : Type} (x : UInt8) : 0 + 1 ≤ Rows.uptoBulk (DB.data H x) := by
  show 0 + 1 ≤ Rows.uptoBulk (DataW.lit _)
  simp [Rows.uptoBulk]
theorem sum_zero (l : List UInt8) : (l.map fun _ => 0).sum = 0 := by
  induction l with
  | nil => rfl
  | cons c l ih => simp [ih]
section
variable {H : Type} {enc : TypeId × Value → H} {w : World} {base : Nat} {sp : Nat → Bool} {held : Bool} {r : Reach} {b0 : Nat} {v : Value} {d : DataW H} {ps : List MemPlace}
set_option maxRecDepth 100000 in
theorem open_bytesB (hval : Value.okWide Try.prog w r b0 23 v) (hd : DataW.Trod enc Try.prog w base sp held 23 v d ps) : ∃ l : List UInt8, BytesAt w v l ∧ l.length + 1 ≤ Rows.uptoBulk d := by
  obtain ⟨fuel, hf⟩ := hd
  obtain ⟨u, l, e, hs, hx⟩ := open_sliceE DB (x := (d, ps)) hf
  obtain ⟨a, n, c, rfl⟩ := okWide_slice (by kernel_rfl : Try.prog.underlying 23 = some (.slice 5)) hval
  obtain rfl : Value.slice a n c = u := by simpa [Value.cells] using e
  have := bulk_slice hx (fun _ => 0) bulk_byte
  rw [sum_zero] at this
  exact ⟨l, hs, by simpa using this⟩
end
end Go.Proofs.Ytpnolgliklmnmaa
/-! A path and a text as arguments: read, and laid again. -/
namespace Go.Proofs.Ytpnolgliklmnmaa
open Go.RowKit Go.Agg Go.ChangeMaps Go.ChangeShapes Go.WideShapes
section
variable {H : Type} {enc : TypeId × Value → H} {w : World} {base : Nat} {sp : Nat → Bool} {held : Bool}
def hashData {H : Type} (h : List UInt8) : DataW H := .agg (byteData h)
def pathData {H : Type} (h n : List UInt8) : DataW H := .agg [hashData h, .lit (.string n)]
theorem pC_take (h n : List UInt8) (hl : h.length = 20) : ((pC h n).toList.drop 0).take 20 = Lib.byteCells h := by
  rw [List.drop_zero, pC, hC]
  simp only [Array.toList_append]
  exact List.take_left' (by rw [Lib.byteCells_length, hl])
theorem pC_drop (h n : List UInt8) (hl : h.length = 20) : ((pC h n).toList.drop 20).take 1 = [.string ⟨n.toArray⟩] := by
  rw [pC, hC]
  simp only [Array.toList_append]
  rw [List.drop_left' (by rw [Lib.byteCells_length, hl])]
  rfl
theorem cells_hash : Try.prog.cellsOf 42 = 20 := by kernel_rfl
theorem cells_str : Try.prog.cellsOf 9 = 1 := by kernel_rfl
theorem cells_path : Try.prog.cellsOf 44 = 21 := by kernel_rfl
theorem open_path_cells {fuel : Nat} {cs : List Value} {x : DataW H × List MemPlace} (h : DataW.trod enc Try.prog w base sp held fuel 44 cs = some x) :
    ∃ h n : List UInt8, h.length = 20 ∧ n.length ≤ maxLen ∧ cs = (pC h n).toList ∧ x = (pathData h n, []) := by
  obtain ⟨xs, m, rfl, rfl, hl, hx, ha⟩ := DataW.trod_struct pC_under h
  have hf := path_fields
  generalize Try.prog.fieldsOf 44 = fs at *
  obtain ⟨fs⟩ := fs
  cases fs with
  | nil => exact absurd hf (by simp)
  | cons f1 fs =>
  cases fs with
  | nil => exact absurd hf (by simp)
  | cons f2 fs =>
  cases fs with
  | cons f3 fs => exact absurd hf (by simp)
  | nil =>
    simp only [List.map_cons, List.map_nil, List.cons.injEq, Prod.mk.injEq, and_true] at hf
    obtain ⟨⟨a1, a2, a3⟩, b1, b2, b3⟩ := hf
    match xs, hx with
    | [x1, x2], _ =>
      have h1 := ha 0 f1 rfl
      have h2 := ha 1 f2 rfl
      rw [a2, a3, cells_hash] at h1
      rw [b2, b3, cells_str] at h2
      obtain ⟨l, e1, e2, e3⟩ := open_bytes Try.underlying42 Try.underlying5 cells_byte cells_hash h1
      obtain ⟨s, e4, e5, e6⟩ := DataW.trod_string Try.underlying9 h2
      rw [cells_path] at hl
      refine ⟨l, s.data.toList, e1, e6, ?_, ?_⟩
      · have : cs = (cs.drop 0).take 20 ++ (cs.drop 20).take 1 := by
          rw [List.drop_zero, List.take_of_length_le (l := cs.drop 20) (by simp; omega), List.take_append_drop]
        rw [this, e2, e4]
        simp [pC, hC]
      · rw [e3, e5]; rfl
theorem shut_path_cells (h n : List UInt8) (hl : h.length = 20) (hn : n.length ≤ maxLen) : DataW.trod enc Try.prog w base sp held 3 44 (pC h n).toList = some (pathData h n, []) := by
  have hm : (Try.prog.fieldsOf 44).toList.mapM (fun f => DataW.trod enc Try.prog w base sp held 2 f.type (((pC h n).toList.drop f.offset).take (Try.prog.cellsOf f.type))) = some [(hashData h, []), (.lit (.string n), [])] := by
    have hf := path_fields
    generalize Try.prog.fieldsOf 44 = fs at *
    obtain ⟨fs⟩ := fs
    cases fs with
    | nil => exact absurd hf (by simp)
    | cons f1 fs =>
    cases fs with
    | nil => exact absurd hf (by simp)
    | cons f2 fs =>
    cases fs with
    | cons f3 fs => exact absurd hf (by simp)
    | nil =>
      simp only [List.map_cons, List.map_nil, List.cons.injEq, Prod.mk.injEq, and_true] at hf
      obtain ⟨⟨a1, a2, a3⟩, b1, b2, b3⟩ := hf
      have h1 := shut_bytes (enc := enc) (w := w) (base := base) (sp := sp) (held := held) Try.underlying42 Try.underlying5 cells_byte cells_hash h hl
      have h2 : DataW.trod enc Try.prog w base sp held 2 9 [.string ⟨n.toArray⟩] = some (.lit (.string n), []) := by
        simp only [DataW.trod, Try.underlying9]
        rw [if_pos (by simpa [ByteArray.size] using hn)]
      simp only [List.mapM_cons, List.mapM_nil, a2, a3, b2, b3, cells_hash, cells_str, pC_drop h n hl, pC_take h n hl, h1, h2]
      rfl
  exact trod_struct_mk pC_under (by rw [cells_path]; simp [pC_size, hl]) hm
set_option maxRecDepth 100000 in
theorem open_path {r : Reach} {b0 : Nat} {v : Value} {d : DataW H} {ps : List MemPlace} (hval : Value.okWide Try.prog w r b0 44 v) (hd : DataW.Trod enc Try.prog w base sp held 44 v d ps) :
    ∃ h n : List UInt8, v = .agg (pC h n) ∧ d = pathData h n ∧ ps = [] ∧ h.length = 20 ∧ n.length ≤ maxLen := by
  obtain ⟨cs, rfl, _⟩ := okWide_struct pC_under hval
  obtain ⟨fuel, hf⟩ := hd
  obtain ⟨h, n, hl, hn, e, e2⟩ := open_path_cells hf
  exact ⟨h, n, congrArg Value.agg (Array.ext' e), congrArg Prod.fst e2, congrArg Prod.snd e2, hl, hn⟩
theorem shut_path (h n : List UInt8) (hl : h.length = 20) (hn : n.length ≤ maxLen) : DataW.Trod enc Try.prog w base sp held 44 (.agg (pC h n)) (pathData h n) [] := ⟨3, shut_path_cells h n hl hn⟩
set_option maxRecDepth 100000 in
theorem open_text {r : Reach} {b0 : Nat} {v : Value} {d : DataW H} {ps : List MemPlace} (hval : Value.okWide Try.prog w r b0 9 v) (hd : DataW.Trod enc Try.prog w base sp held 9 v d ps) :
    ∃ s : List UInt8, v = .string ⟨s.toArray⟩ ∧ d = .lit (.string s) ∧ ps = [] ∧ s.length ≤ maxLen := by
  obtain ⟨s, rfl, rfl, rfl, hs⟩ := open_string Try.underlying9 hval hd
  exact ⟨s.data.toList, rfl, rfl, rfl, hs⟩
theorem shut_text (s : List UInt8) (hs : s.length ≤ maxLen) : DataW.Trod enc Try.prog w base sp held 9 (.string ⟨s.toArray⟩) (.lit (.string s)) [] := by
  have := shut_string (enc := enc) (w := w) (base := base) (sp := sp) (held := held) (s := ⟨s.toArray⟩) Try.underlying9 (by simpa [ByteArray.size] using hs)
  simpa using this
end
theorem maxLenCell {W : World} (h : W.ShapedOpen Try.prog) : ∃ m, W.cell? ⟨0, 0, none⟩ = some (.int .i64 m) :=
  cell_of_shapedOpen_int (g := 0) (t := 3) (zero := #[.int .i64 0]) h (of_decide_eq_true (by kernel_rfl)) (by kernel_rfl) rfl (by kernel_rfl) (by kernel_rfl) Try.underlying3
end Go.Proofs.Ytpnolgliklmnmaa
/-! A request as an argument. -/
namespace Go.Proofs.Ytpnolgliklmnmaa
open Go.RowKit Pl Go.Agg Go.ChangeMaps Go.ChangeShapes Go.WideShapes
theorem chunk (cs : List Value) (n m : Nat) : cs.drop n = (cs.drop n).take m ++ cs.drop (n + m) := by
  rw [← List.drop_drop, List.take_append_drop]
section
variable {H : Type} {enc : TypeId × Value → H} {w : World} {base : Nat} {sp : Nat → Bool} {held : Bool} {r : Reach} {b0 : Nat} {v : Value} {d : DataW H} {ps : List MemPlace}
theorem req_under : Try.prog.underlying 46 = some (.struct (Try.prog.fieldsOf 46)) := by kernel_rfl
theorem req_fields : (Try.prog.fieldsOf 46).toList.map (fun f => (f.name, f.type, f.offset)) = [("Kind", 40, 0), ("User", 3, 1), ("Who", 3, 2), ("Name", 9, 3), ("Bytes", 23, 4), ("Path", 44, 5), ("Class", 42, 26)] := by kernel_rfl
theorem cells_req : Try.prog.cellsOf 46 = 46 := by kernel_rfl
theorem cells_kind : Try.prog.cellsOf 40 = 1 := by kernel_rfl
theorem cells_int : Try.prog.cellsOf 3 = 1 := by kernel_rfl
theorem cells_bytesR : Try.prog.cellsOf 23 = 1 := by kernel_rfl
set_option maxRecDepth 100000 in
theorem open_req (hval : Value.okWide Try.prog w r b0 46 v) (hd : DataW.Trod enc Try.prog w base sp held 46 v d ps) :
    ∃ (k u wh : Int) (nm : List UInt8) (vb : Value) (bs ph pn ch : List UInt8), v = .agg (rqG k u wh nm vb ph pn ch) ∧ BytesAt w vb bs ∧ ph.length = 20 ∧ ch.length = 20 ∧ nm.length + bs.length + pn.length + 1 ≤ Rows.uptoBulk d := by
  obtain ⟨cs, rfl, _⟩ := okWide_struct req_under hval
  obtain ⟨fuel, hfu⟩ := hd
  obtain ⟨xs, m, rfl, hdd, hl, hx, ha⟩ := DataW.trod_struct req_under hfu
  have hf := req_fields
  generalize Try.prog.fieldsOf 46 = fs at *
  obtain ⟨fs⟩ := fs
  cases fs with
  | nil => exact absurd hf (by simp)
  | cons f1 fs =>
  cases fs with
  | nil => exact absurd hf (by simp)
  | cons f2 fs =>
  cases fs with
  | nil => exact absurd hf (by simp)
  | cons f3 fs =>
  cases fs with
  | nil => exact absurd hf (by simp)
  | cons f4 fs =>
  cases fs with
  | nil => exact absurd hf (by simp)
  | cons f5 fs =>
  cases fs with
  | nil => exact absurd hf (by simp)
  | cons f6 fs =>
  cases fs with
  | nil => exact absurd hf (by simp)
  | cons f7 fs =>
  cases fs with
  | cons f8 fs => exact absurd hf (by simp)
  | nil =>
    simp only [List.map_cons, List.map_nil, List.cons.injEq, Prod.mk.injEq, and_true] at hf
    obtain ⟨⟨a1, a2, a3⟩, ⟨b1, b2, b3⟩, ⟨c1, c2, c3⟩, ⟨d1, d2, d3⟩, ⟨e1, e2, e3⟩, ⟨g1, g2, g3⟩, i1, i2, i3⟩ := hf
    match xs, hx with
    | [x1, x2, x3, x4, x5, x6, x7], _ =>
      have h1 := ha 0 f1 rfl
      have h2 := ha 1 f2 rfl
      have h3 := ha 2 f3 rfl
      have h4 := ha 3 f4 rfl
      have h5 := ha 4 f5 rfl
      have h6 := ha 5 f6 rfl
      have h7 := ha 6 f7 rfl
      rw [a2, a3, cells_kind] at h1
      rw [b2, b3, cells_int] at h2
      rw [c2, c3, cells_int] at h3
      rw [d2, d3, cells_str] at h4
      rw [e2, e3, cells_bytesR] at h5
      rw [g2, g3, cells_path] at h6
      rw [i2, i3, cells_hash] at h7
      obtain ⟨k, k1, k2, _⟩ := DataW.trod_int Try.underlying40 h1
      obtain ⟨u, u1, u2, _⟩ := DataW.trod_int Try.underlying3 h2
      obtain ⟨wh, w1, w2, _⟩ := DataW.trod_int Try.underlying3 h3
      obtain ⟨s, s1, s2, _⟩ := DataW.trod_string Try.underlying9 h4
      obtain ⟨vb, lb, l1, hs5, hx5⟩ := open_sliceE DB h5
      obtain ⟨ph, pn, p1, _, p2, p3⟩ := open_path_cells h6
      obtain ⟨ch, q1, q2, q3⟩ := open_bytes Try.underlying42 Try.underlying5 cells_byte cells_hash h7
      rw [cells_req] at hl
      have hl46 : (Value.agg cs).cells.toList.length = 46 := hl
      have hcs : (Value.agg cs).cells.toList = (rqG k u wh s.data.toList vb ph pn ch).toList := by
        generalize (Value.agg cs).cells.toList = L at *
        have h0 : L = L.drop 0 := rfl
        rw [h0, chunk L 0 1, k1, chunk L (0 + 1) 1, u1, chunk L (0 + 1 + 1) 1, w1, chunk L (0 + 1 + 1 + 1) 1, s1, chunk L (0 + 1 + 1 + 1 + 1) 1, l1, chunk L (0 + 1 + 1 + 1 + 1 + 1) 21, p2, chunk L (0 + 1 + 1 + 1 + 1 + 1 + 21) 20, q2, show L.drop (0 + 1 + 1 + 1 + 1 + 1 + 21 + 20) = [] from List.drop_eq_nil_of_le (by omega)]
        simp [rqG, rqH, hC]
      refine ⟨k, u, wh, s.data.toList, vb, lb, ph, pn, ch, by rw [← Array.ext' hcs]; rfl, hs5, p1, q1, ?_⟩
      have k2' := bulk_slice hx5 (fun _ => 0) bulk_byte
      rw [sum_zero] at k2'
      have hd2 : d = .agg [x1.1, x2.1, x3.1, x4.1, x5.1, x6.1, x7.1] := by simpa using congrArg Prod.fst hdd
      rw [hd2, k2, u2, w2, s2, p3, q3]
      simp only [Rows.uptoBulk, Rows.uptoBulkAll, pathData]
      omega
end
end Go.Proofs.Ytpnolgliklmnmaa
/-! A law that returns true and keeps all that was there: its row's proof; slices as arguments. -/
namespace Go.Proofs.Ytpnolgliklmnmaa
open Go.RowKit Go.Agg Go.ChangeMaps Go.ChangeShapes Go.WideShapes
/-- paths as elements -/
def D20 : ElemD Try.prog P20 where
  toElem := E20
  cellsOf := cells_path
  data := fun _ p => pathData p.1.1 p.1.2
  open_ := fun H enc w base sp held fuel cs x h => by
    obtain ⟨g, n, hl, _, e1, e2⟩ := open_path_cells h
    exact ⟨⟨(g, n), hl⟩, e1, e2⟩
theorem bulk_path {H : Type} (p : P20) : p.1.2.length + 1 ≤ Rows.uptoBulk (D20.data H p) := by
  show p.1.2.length + 1 ≤ Rows.uptoBulk (pathData p.1.1 p.1.2)
  simp only [pathData, Rows.uptoBulk, Rows.uptoBulkAll]; omega
set_option maxRecDepth 100000 in
theorem open_paths {H : Type} {enc : TypeId × Value → H} {w : World} {base : Nat} {sp : Nat → Bool} {held : Bool} {r : Reach} {b0 : Nat} {v : Value} {d : DataW H} {ps : List MemPlace} (hval : Value.okWide Try.prog w r b0 47 v) (hd : DataW.Trod enc Try.prog w base sp held 47 v d ps) :
    ∃ l : List P20, ElemsAt w v l ∧ (l.map fun p => p.1.2.length).sum + l.length + 1 ≤ Rows.uptoBulk d := by
  obtain ⟨fuel, hf⟩ := hd
  obtain ⟨u, l, e, hs, hx⟩ := open_sliceE D20 (x := (d, ps)) hf
  obtain ⟨a, n, c, rfl⟩ := okWide_slice Try.underlying47 hval
  obtain rfl : Value.slice a n c = u := by simpa [Value.cells] using e
  exact ⟨l, hs, bulk_slice hx _ bulk_path⟩
set_option maxRecDepth 100000 in
theorem open_path20 {H : Type} {enc : TypeId × Value → H} {w : World} {base : Nat} {sp : Nat → Bool} {held : Bool} {r : Reach} {b0 : Nat} {v : Value} {d : DataW H} {ps : List MemPlace} (hval : Value.okWide Try.prog w r b0 44 v) (hd : DataW.Trod enc Try.prog w base sp held 44 v d ps) :
    ∃ p : P20, v = .agg (pC p.1.1 p.1.2) ∧ p.1.2.length + 1 ≤ Rows.uptoBulk d := by
  obtain ⟨h, n, rfl, rfl, _, hl, _⟩ := open_path hval hd
  exact ⟨⟨(h, n), hl⟩, rfl, by simp only [pathData, Rows.uptoBulk, Rows.uptoBulkAll]; omega⟩
end Go.Proofs.Ytpnolgliklmnmaa
/-! A reply as an argument. -/
namespace Go.Proofs.Ytpnolgliklmnmaa
open Go.RowKit Pl Go.Agg Go.ChangeMaps Go.ChangeShapes Go.WideShapes
section
variable {H : Type} {enc : TypeId × Value → H} {w : World} {base : Nat} {sp : Nat → Bool} {held : Bool} {r : Reach} {b0 : Nat} {v : Value} {d : DataW H} {ps : List MemPlace}
theorem rep_under : Try.prog.underlying 49 = some (.struct (Try.prog.fieldsOf 49)) := by kernel_rfl
theorem rep_fields : (Try.prog.fieldsOf 49).toList.map (fun f => (f.name, f.type, f.offset)) = [("Err", 28, 0), ("Path", 44, 1), ("Class", 42, 22), ("Goal", 3, 42), ("Paths", 47, 43), ("Many", 3, 44)] := by kernel_rfl
theorem cells_rep : Try.prog.cellsOf 49 = 45 := by kernel_rfl
theorem cells_errno : Try.prog.cellsOf 28 = 1 := by kernel_rfl
theorem cells_pathsR : Try.prog.cellsOf 47 = 1 := by kernel_rfl
set_option maxRecDepth 100000 in
theorem open_rep (hval : Value.okWide Try.prog w r b0 49 v) (hd : DataW.Trod enc Try.prog w base sp held 49 v d ps) :
    ∃ (e g m : Int) (pv : Value) (l : List P20) (ph pn ch : List UInt8), v = .agg (rpG e ph pn ch g pv m) ∧ ElemsAt w pv l ∧ ph.length = 20 ∧ ch.length = 20 ∧ (l.map fun p => p.1.2.length).sum + l.length + pn.length + 1 ≤ Rows.uptoBulk d := by
  obtain ⟨cs, rfl, _⟩ := okWide_struct rep_under hval
  obtain ⟨fuel, hfu⟩ := hd
  obtain ⟨xs, m, rfl, hdd, hl, hx, ha⟩ := DataW.trod_struct rep_under hfu
  have hf := rep_fields
  generalize Try.prog.fieldsOf 49 = fs at *
  obtain ⟨fs⟩ := fs
  cases fs with
  | nil => exact absurd hf (by simp)
  | cons f1 fs =>
  cases fs with
  | nil => exact absurd hf (by simp)
  | cons f2 fs =>
  cases fs with
  | nil => exact absurd hf (by simp)
  | cons f3 fs =>
  cases fs with
  | nil => exact absurd hf (by simp)
  | cons f4 fs =>
  cases fs with
  | nil => exact absurd hf (by simp)
  | cons f5 fs =>
  cases fs with
  | nil => exact absurd hf (by simp)
  | cons f6 fs =>
  cases fs with
  | cons f7 fs => exact absurd hf (by simp)
  | nil =>
    simp only [List.map_cons, List.map_nil, List.cons.injEq, Prod.mk.injEq, and_true] at hf
    obtain ⟨⟨a1, a2, a3⟩, ⟨b1, b2, b3⟩, ⟨c1, c2, c3⟩, ⟨d1, d2, d3⟩, ⟨e1, e2, e3⟩, g1, g2, g3⟩ := hf
    match xs, hx with
    | [x1, x2, x3, x4, x5, x6], _ =>
      have h1 := ha 0 f1 rfl
      have h2 := ha 1 f2 rfl
      have h3 := ha 2 f3 rfl
      have h4 := ha 3 f4 rfl
      have h5 := ha 4 f5 rfl
      have h6 := ha 5 f6 rfl
      rw [a2, a3, cells_errno] at h1
      rw [b2, b3, cells_path] at h2
      rw [c2, c3, cells_hash] at h3
      rw [d2, d3, cells_int] at h4
      rw [e2, e3, cells_pathsR] at h5
      rw [g2, g3, cells_int] at h6
      obtain ⟨e, k1, k2, _⟩ := DataW.trod_int Try.underlying28 h1
      obtain ⟨ph, pn, p1, _, p2, p3⟩ := open_path_cells h2
      obtain ⟨ch, q1, q2, q3⟩ := open_bytes Try.underlying42 Try.underlying5 cells_byte cells_hash h3
      obtain ⟨g, u1, u2, _⟩ := DataW.trod_int Try.underlying3 h4
      obtain ⟨pv, l, l1, hs5, hx5⟩ := open_sliceE D20 h5
      obtain ⟨m, w1, w2, _⟩ := DataW.trod_int Try.underlying3 h6
      rw [cells_rep] at hl
      have hl45 : (Value.agg cs).cells.toList.length = 45 := hl
      have hcs : (Value.agg cs).cells.toList = (rpG e ph pn ch g pv m).toList := by
        generalize (Value.agg cs).cells.toList = L at *
        have h0 : L = L.drop 0 := rfl
        rw [h0, chunk L 0 1, k1, chunk L (0 + 1) 21, p2, chunk L (0 + 1 + 21) 20, q2, chunk L (0 + 1 + 21 + 20) 1, u1, chunk L (0 + 1 + 21 + 20 + 1) 1, l1, chunk L (0 + 1 + 21 + 20 + 1 + 1) 1, w1, show L.drop (0 + 1 + 21 + 20 + 1 + 1 + 1) = [] from List.drop_eq_nil_of_le (by omega)]
        simp [rpG, hC]
      refine ⟨e, g, m, pv, l, ph, pn, ch, by rw [← Array.ext' hcs]; rfl, hs5, p1, q1, ?_⟩
      have k2' := bulk_slice hx5 _ bulk_path
      have hd2 : d = .agg [x1.1, x2.1, x3.1, x4.1, x5.1, x6.1] := by simpa using congrArg Prod.fst hdd
      rw [hd2, k2, u2, w2, p3, q3]
      simp only [Rows.uptoBulk, Rows.uptoBulkAll, pathData]
      omega
end
end Go.Proofs.Ytpnolgliklmnmaa
/-! WireBack, proved. -/
namespace Go.Proofs.Ytpnolgliklmnmaa
open Go.ChangeShapes Go.WideShapes Go.ChangeAt Go.RowKit Go.Agg
set_option maxRecDepth 100000 in
theorem wireBack_lifted (os : Os) (started : os.Started) (H : Type) (enc : TypeId × Value → H) (F : Stop.Interp) :
    ReturnsInHanded {} Try.checked os 5 .any ((Rows.OpenSpec.upto Rows.wireBackSpec).pre6 enc Try.prog Try.f5 Rows.wireBackUptoRow.domain false) (((Rows.OpenSpec.upto Rows.wireBackSpec).at F).post enc Try.prog Try.f5 false true false false) := by
  refine Agg.handed_cond_shaped (C := Try.checked) (s := Rows.OpenSpec.upto Rows.wireBackSpec) (k := Rows.uptoSmall) rfl own started (by kernel_rfl) Try.func5
    (OpenSpec.witness (enc := enc) (C := Try.checked) (s := Rows.OpenSpec.upto Rows.wireBackSpec) (k := Rows.uptoSmall) rfl false ⟨#[], #[.agg (rqG 0 0 0 [] (.slice none 0 0) z20 [] z20), .agg (rpG 0 z20 [] z20 0 (.slice none 0 0) 0), .slice none 0 0], []⟩ 8 (by kernel_rfl) (by kernel_rfl) (by kernel_rfl)
      (x := ([.agg [.lit (.int .i64 0), .lit (.int .i64 0), .lit (.int .i64 0), .lit (.string []), .nil, pathData z20 [], hashData z20], .agg [.lit (.int .i64 0), pathData z20 [], hashData z20, .lit (.int .i64 0), .nil, .lit (.int .i64 0)], .nil], [], [])) (by kernel_rfl) rfl (by kernel_rfl)) ?_
  intro W base args ds gs before hval0 hW hk hsh
  have hval : ∀ (j : Nat) t v, Try.f5.params[j]? = some t → args[j]? = some v → Value.okWide Try.prog W .any base t v := hval0
  have hW' := hW
  obtain ⟨p, q, hA0, hV, rfl, hfz, hnd⟩ := hW
  have hA : DataW.TrodAll enc Try.prog W 0 (fun _ => true) true Try.f5.params.toList args.toList ds p := hA0
  rw [Try.params5] at hA hval
  obtain ⟨v0, vs0, d0, ds0, p0, q0, hargs, rfl, rfl, h0, r0⟩ := trodAll_cons hA
  obtain ⟨v1, vs1, d1, ds1, p1, q1, rfl, rfl, rfl, h1, r1⟩ := trodAll_cons r0
  obtain ⟨v2, vs2, d2, ds2, p2, q2, rfl, rfl, rfl, h2, r2⟩ := trodAll_cons r1
  obtain ⟨rfl, rfl, rfl⟩ := trodAll_nil r2
  obtain rfl : args = #[v0, v1, v2] := by cases args; simp_all
  obtain ⟨rfl, rfl⟩ := trodVars_none hV
  obtain ⟨k0, u0, wh0, nm0, vb0, bs0, ph0, pn0, ch0, rfl, hs0, hl0, hc0, hb0⟩ := open_req (hval 0 46 v0 rfl rfl) h0
  obtain ⟨e1, g1, mm1, pv1, l1, ph1, pn1, ch1, rfl, hs1, hl1, hc1, hb1⟩ := open_rep (hval 1 49 v1 rfl rfl) h1
  obtain ⟨x2, hs2, hb2⟩ := open_bytesB (hval 2 23 v2 rfl rfl) h2
  clear hA0 hval0
  simp only [List.append_nil] at hW' hk
  have hsm : Rows.uptoBulk d0 + Rows.uptoBulk d1 + Rows.uptoBulk d2 ≤ 1048576 := by
    have hb := of_decide_eq_true hk
    simp only [Rows.uptoBulkAll] at hb
    omega
  obtain ⟨m, hm⟩ := maxLenCell hsh
  refine (wireBack_sum k0 u0 wh0 nm0 vb0 bs0 ph0 pn0 ch0 hl0 hc0 e1 g1 mm1 ph1 pn1 ch1 pv1 l1 hl1 hc1 v2 x2 m (by omega) (by omega) (by omega) (by omega) (by omega) (by omega) (by omega) W hm hs0 hs1 hs2).mono fun e W' ⟨he, hg⟩ => ?_
  subst he
  exact ⟨_, rfl, Agg.post_law (bt := 4) hW' rfl laidOut (of_decide_eq_true (by kernel_rfl)) rfl rfl rfl rfl Try.underlying4 hg⟩
theorem wireBack_proved : Rows.WireBackUptoSaid :=
  OpenClaim.holds_of_cond 5 Try.f5 rfl rfl rfl rfl rfl rfl rfl ⟨rfl, rfl, rfl, rfl, rfl⟩ rfl rfl rfl rfl rfl (by kernel_rfl) Try.func5 (by kernel_rfl)
    (of_decide_eq_true (by kernel_rfl)) (by unfold Func.isWrapper; first | (rw [if_pos (by decide +kernel)]; kernel_rfl) | (rw [if_neg (by decide +kernel)]; exact ⟨rfl, rfl⟩))
    (fun os started H enc _ F => wireBack_lifted os started H enc F)
end Go.Proofs.Ytpnolgliklmnmaa
