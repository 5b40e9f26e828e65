/- pack.Open. (Several texts in one.) -/
import Derived.Test.YtfiadgdinhmgbaaGreatDoorEAM
import Derived.Test.YtfiadgdinhmgbaaGreatDoorEAO
import Derived.Test.YtfiadgdinhmgbaaGreatDoorEAF
import Derived.Test.YtfiadgdinhmgbaaGreatDoorEAN
/-! (*pack.opener).node, pack.Open. -/
namespace Go.Agg
open Go.RowKit
section
variable {P : Program} {ops : Array Oper} {rest : List Oper} {o : Oper} {a : Act} {w : World} {Q : Exit → Act → World → Prop} {t u : TypeId} {x y : Operand} {s r : List UInt8}
theorem leq_notT (a b : List UInt8) : (Op.bytesLess a b || a == b) = !Op.bytesLess b a := by
 by_cases e : a = b
 ·subst e; simp [Tr.bytesLess_irrefl]
 ·cases h : Op.bytesLess a b with
  | false => simp [e, Tr.bytesLess_total a b e h]
  | true => simp [Tr.bytesLess_asymm a b h]
theorem exec_leqS (ho : o.op = .binOp .leq t x y u) (hx : a.eval x = .string ⟨s.toArray⟩) (hy : a.eval y = .string ⟨r.toArray⟩) : (execOp a.eval o).run P w = .ok (.value (.bool (!Op.bytesLess r s))) w := by
 simp only [execOp, ho, hx, hy]
 simp only [binOp, Op.stringOp, bytes_toList, eqGuard]
 simp [leq_notT]
theorem wpList_leqS (hw : Region.wanted o (yielded ops a.tmps) = true) (ho : o.op = .binOp .leq t x y u) (hx : a.eval x = .string ⟨s.toArray⟩) (hy : a.eval y = .string ⟨r.toArray⟩) (b : Bool) (hb : (!Op.bytesLess r s) = b) (h : wpList P ops Q rest (a.put o.dst (.bool b)) w) : wpList P ops Q (o :: rest) a w := by
 subst hb
 exact wpList_valw hw (exec_leqS ho hx hy) h
end
theorem Only.thenNew {S : Nat → Prop} {w w' w'' : World} {g : Nat} (h : Only S w w') (k : Only (· = g) w' w'') (hg : w.heap.size ≤ g) : Only S w w'' := h.trans k fun i hi e => by subst e; omega
theorem Only.then2 {S : Nat → Prop} {w w' w'' : World} (h : Only S w w') (k : Only S w' w'') : Only S w w'' := h.trans k fun _ _ h => h
theorem Only.thenB {S : Nat → Prop} {w w' w'' : World} (h : Only S w w') (k : Below w'.heap.size w' w'') : Only S w w'' := h.trans (Only.of_below (S := fun _ => False) k) (fun _ _ h => h.elim)
end Go.Agg
namespace Go.Proofs.YtfiadgdinhmgbaaGreatDoor
open Go.RowKit Pl Go.Agg Go.Tr
def opC (gc : Nat) (left : Int) : Array Value := #[.pointer (some ⟨gc, 0, none⟩), .int .i64 left]
theorem op_info (gc : Nat) (left : Int) : (Tryz.prog.info? 55).map (·.size) = some (opC gc left).size := by kernel_rfl
structure OpL (w : World) (g gc : Nat) (left : Int) : Prop where
 cur : LoadsL Tryz.prog w 52 (some ⟨g, 0, none⟩) (.pointer (some ⟨gc, 0, none⟩))
 left : LoadsL Tryz.prog w 3 (some ⟨g, 1, none⟩) (.int .i64 left)
theorem OpL.of_blk {w : World} {g gc : Nat} {left : Int} (h : Blk w g 55 (opC gc left)) : OpL w g gc left :=
 ⟨h.one 0 rfl Tryz.underlying52 rfl, h.one 1 rfl Tryz.underlying3 rfl⟩
theorem blk_ne {w : World} {g g' : Nat} {t t' : TypeId} {cs cs' : Array Value} (h : Blk w g t cs) (h' : Blk w g' t' cs') (hne : t ≠ t') : g ≠ g' := by
 rintro rfl
 exact hne (h.type h')
theorem OwnS.onlyS {base : Nat} {w w' : World} {vb vk : Value} {bs : List UInt8} {ks : List KdV} {l : List K} {cs : List Nat} {S : Nat → Prop} (h : OwnS base w vb bs vk ks l cs) (ho : Only S w w') (hS : ∀ j, base ≤ j → ¬ S j) : OwnS base w' vb bs vk ks l cs :=
 ⟨own_stays h.bytes ho fun k hk => hS k (own_range h.bytes k hk).1, own_stays h.row ho fun k hk => hS k (own_range h.row k hk).1, OwnL.only ho l ks cs h.kids fun k hk => hS k (OwnL.range l ks cs h.kids k hk).1, h.nodup⟩
def NodeOut (B cb go gc : Nat) (w w' : World) (e : Ending) : Option (T × Nat × S) → Prop
 | none => ∃ x : NdV, e = .returned (.tuple #[.agg (ndC x), .bool false]) ∧ Only (fun j => j = go ∨ j = gc) w w'
 | some r => ∃ x : NdV, e = .returned (.tuple #[.agg (ndC x), .bool true]) ∧ OwnN B w' x r.1 ∧ Blk w' go 55 (opC gc (r.2.1 : Int)) ∧ CuS cb gc w' r.2.2 ∧ Only (fun j => j = go ∨ j = gc) w w'
theorem i64_pred200 (n : Nat) (h : n ≤ 200) : IntKind.i64.wrap ((n : Int) - 1) = (n : Int) - 1 := by
 rw [IntKind.wrap_i64]; omega
theorem only2_of {go gc : Nat} {w w' : World} (h : Only (· = go) w w') : Only (fun j => j = go ∨ j = gc) w w' := h.mono fun _ _ e => .inl e
theorem only2_of' {go gc : Nat} {w w' : World} (h : Only (· = gc) w w') : Only (fun j => j = go ∨ j = gc) w w' := h.mono fun _ _ e => .inr e
theorem opn_zero {d left : Nat} {s : S} : opn 0 d left s = none := rfl
theorem opn_out {f d left : Nat} {s : S} (h : left = 0 ∨ 8 < d) : opn f d left s = none := by
 cases f with
 | zero => rfl
 | succ f => simp [opn, h]
theorem opn_file {f d left k : Nat} {s s1 s2 : S} {b : List UInt8} (hl : ¬ left = 0) (hd : d ≤ 8) (h1 : sNum 4 s = (k, s1)) (h4 : ¬ k = 4) (h2 : sText 2048 s1 = (b, s2)) : opn (f + 1) d left s = some (.mk (k : Int) b [], left - 1, s2) := by
 have : ¬ (left = 0 ∨ 8 < d) := by omega
 simp [opn, this, h1, h4, h2]
def dirO : Option (List K × Nat × S) → Option (T × Nat × S)
 | none => none
 | some (l, left, s) => some (.mk 4 [] l, left, s)
theorem opn_dir {f d left c : Nat} {s s1 s2 : S} (hl : ¬ left = 0) (hd : d ≤ 8) (h1 : sNum 4 s = (4, s1)) (h2 : sNum 200 s1 = (c, s2)) : opn (f + 1) d left s = dirO (opnL (opn f (d + 1)) c [] (left - 1) s2) := by
 have : ¬ (left = 0 ∨ 8 < d) := by omega
 simp only [opn, this, h1, h2, if_true, if_false]
 cases opnL (opn f (d + 1)) c [] (left - 1) s2 <;> rfl
theorem OwnS.onlyR {base : Nat} {w w' : World} {vb vk : Value} {bs : List UInt8} {ks : List KdV} {l : List K} {cs : List Nat} {S : Nat → Prop} (h : OwnS base w vb bs vk ks l cs) (ho : Only S w w') (hS : ∀ j ∈ ownB vb ++ (ownB vk ++ cs), ¬ S j) : OwnS base w' vb bs vk ks l cs :=
 ⟨own_stays h.bytes ho fun k hk => hS k (by simp [hk]), own_stays h.row ho fun k hk => hS k (by simp [hk]), OwnL.only ho l ks cs h.kids fun k hk => hS k (by simp [hk]), h.nodup⟩
theorem kdC_split (n : List UInt8) (x : NdV) : kdC (n, x) = #[.string ⟨n.toArray⟩] ++ (ndC x ++ #[]) := rfl
theorem only_pushed {base : Nat} {w w' w'' : World} {v : Value} {l : List KdV} {S : Nat → Prop} (h : Only S w w') (ho : Agg.Own EK base w' v l) (hp : Pushed EK base w' w'' v) (hb : w.heap.size ≤ base) : Only S w w'' :=
 h.trans hp.only fun i hi e => by
  have := (own_range ho i (mem_ownB.2 e)).1
  omega
set_option maxRecDepth 100000 in
set_option maxHeartbeats 16000000 in
theorem node_any : ∀ (f d left : Nat) (s : S) (cb go gc : Nat) (w : World) (_ : 9 ≤ d + f) (_ : d ≤ 1000) (_ : left ≤ 200) (_ : stLen s ≤ 16777216) (_ : cb ≤ w.heap.size) (_ : Blk w go 55 (opC gc (left : Int))) (_ : CuS cb gc w s),
  Calls Tryz.prog 30 #[.pointer (some ⟨go, 0, none⟩), .int .i64 (d : Int)] w fun e w' => NodeOut w.heap.size cb go gc w w' e (opn f d left s) := by
 intro f
 induction f with
 | zero =>
  intro d left s cb go gc w hf hd hl hs hcb ho hc
  have HRES := Lib.hid (show opn 0 d left s = none from rfl)
  have hwr := i64_pred200 left hl
  have HNE := Lib.hid (show go ≠ gc from by obtain ⟨_, hb⟩ := hc.blk; exact blk_ne ho hb (by decide))
  have HO := Lib.hid ho
  have HC := Lib.hid hc
  have HGO := Lib.hid (show go < w.heap.size ∧ gc < w.heap.size from ⟨ho.lt, hc.lt⟩)
  clear ho hc
  go_enter Tryz.func30, Tryz.ntmps30
  by_cases h0 : left = 0
  ·have dl : decide ((left : Int) - 1 < 0) = true := by simp; omega
   clear h0
   go_wp2_with (first | (refine Agg.wpList_zero rfl 26 rfl (ndC ndZ) nd_zero ?_; intro g4 w1 hb hx hg; have HN1 := Lib.hid hb; have HO1 := Lib.hid (HO.out.below hx); have HLa1 := Lib.hid (OpL.of_blk (HO.out.below hx)).left; have HC1 := Lib.hid (HC.out.below hx); have HX1 := Lib.hid (Only.of_below (S := fun j => j = go ∨ j = gc) hx); have HG4 := Lib.hid (show g4 ≠ go ∧ g4 ≠ gc ∧ w.heap.size ≤ g4 from ⟨fun e => (by have := HGO.out.1; omega), fun e => (by have := HGO.out.2; omega), hg⟩); clear hb hx hg) | (with_reducible refine wpList_loadL HLa1.out rfl _ rfl rfl ?_) | (refine wpList_put1 rfl rfl 3 _ _ rfl go 1 (.int .i64 ((left : Int) - 1)) rfl rfl HO1.out (by show 1 < 2; omega) rfl rfl (by kernel_rfl) (opC gc ((left : Int) - 1)) rfl ?_; intro w2 hb ho hs2; have HO2 := Lib.hid hb; have HLa2 := Lib.hid (OpL.of_blk hb).left; have HLb2 := Lib.hid (OpL.of_blk hb).cur; have HN2 := Lib.hid (Agg.Blk.keepO HN1.out ho HG4.out.1); have HC2 := Lib.hid (HC1.out.other ho HO1.out (by decide) (by decide)); have HX2 := Lib.hid (HX1.out.then2 (only2_of ho)); clear hb ho hs2) | (with_reducible refine wpList_loadL HLa2.out rfl _ rfl rfl ?_) | (with_reducible refine wpList_loadL (NdL.of_blk HN2.out).all rfl _ rfl rfl ?_) | (refine Agg.wpList_put rfl rfl 26 _ _ rfl g4 (ndC ndZ) (ndC ndZ) rfl rfl HN2.out (nd_info _) rfl (ndC_one _) ?_; intro wf hb hx hs9 hk; have ho9 := Only.of_eq (S := (· = g4)) hx hs9 hk rfl; have HF := Lib.hid hb; have HXF := Lib.hid (HX2.out.thenNew ho9 HG4.out.2.2); clear hb hx hs9 hk ho9))
   exact post_row_tmp rfl rfl rfl HF.out nd_under rfl (nd_info _) rfl (by rw [HRES.out]; exact ⟨_, rfl, HXF.out⟩)
  ·have dl : decide ((left : Int) - 1 < 0) = false := by simp; omega
   have dd : decide (8 < (d : Int)) = true := by simp; omega
   clear h0
   go_wp2_with (first | (refine Agg.wpList_zero rfl 26 rfl (ndC ndZ) nd_zero ?_; intro g4 w1 hb hx hg; have HN1 := Lib.hid hb; have HO1 := Lib.hid (HO.out.below hx); have HLa1 := Lib.hid (OpL.of_blk (HO.out.below hx)).left; have HC1 := Lib.hid (HC.out.below hx); have HX1 := Lib.hid (Only.of_below (S := fun j => j = go ∨ j = gc) hx); have HG4 := Lib.hid (show g4 ≠ go ∧ g4 ≠ gc ∧ w.heap.size ≤ g4 from ⟨fun e => (by have := HGO.out.1; omega), fun e => (by have := HGO.out.2; omega), hg⟩); clear hb hx hg) | (with_reducible refine wpList_loadL HLa1.out rfl _ rfl rfl ?_) | (refine wpList_put1 rfl rfl 3 _ _ rfl go 1 (.int .i64 ((left : Int) - 1)) rfl rfl HO1.out (by show 1 < 2; omega) rfl rfl (by kernel_rfl) (opC gc ((left : Int) - 1)) rfl ?_; intro w2 hb ho hs2; have HO2 := Lib.hid hb; have HLa2 := Lib.hid (OpL.of_blk hb).left; have HLb2 := Lib.hid (OpL.of_blk hb).cur; have HN2 := Lib.hid (Agg.Blk.keepO HN1.out ho HG4.out.1); have HC2 := Lib.hid (HC1.out.other ho HO1.out (by decide) (by decide)); have HX2 := Lib.hid (HX1.out.then2 (only2_of ho)); clear hb ho hs2) | (with_reducible refine wpList_loadL HLa2.out rfl _ rfl rfl ?_) | (with_reducible refine wpList_loadL (NdL.of_blk HN2.out).all rfl _ rfl rfl ?_) | (refine Agg.wpList_put rfl rfl 26 _ _ rfl g4 (ndC ndZ) (ndC ndZ) rfl rfl HN2.out (nd_info _) rfl (ndC_one _) ?_; intro wf hb hx hs9 hk; have ho9 := Only.of_eq (S := (· = g4)) hx hs9 hk rfl; have HF := Lib.hid hb; have HXF := Lib.hid (HX2.out.thenNew ho9 HG4.out.2.2); clear hb hx hs9 hk ho9))
   exact post_row_tmp rfl rfl rfl HF.out nd_under rfl (nd_info _) rfl (by rw [HRES.out]; exact ⟨_, rfl, HXF.out⟩)
 | succ f ih =>
  intro d left s cb go gc w hf hd hl hs hcb ho hc
  have hwr := i64_pred200 left hl
  have HIH := Lib.hid ih
  clear ih
  have HNE := Lib.hid (show go ≠ gc from by obtain ⟨_, hb⟩ := hc.blk; exact blk_ne ho hb (by decide))
  have HO := Lib.hid ho
  have HC := Lib.hid hc
  have HGO := Lib.hid (show go < w.heap.size ∧ gc < w.heap.size from ⟨ho.lt, hc.lt⟩)
  clear ho hc
  go_enter Tryz.func30, Tryz.ntmps30
  by_cases h0 : left = 0
  ·have dl : decide ((left : Int) - 1 < 0) = true := by simp; omega
   have HRES := Lib.hid (show opn (f + 1) d left s = none from opn_out (.inl h0))
   clear h0
   go_wp2_with (first | (refine Agg.wpList_zero rfl 26 rfl (ndC ndZ) nd_zero ?_; intro g4 w1 hb hx hg; have HN1 := Lib.hid hb; have HO1 := Lib.hid (HO.out.below hx); have HLa1 := Lib.hid (OpL.of_blk (HO.out.below hx)).left; have HC1 := Lib.hid (HC.out.below hx); have HX1 := Lib.hid (Only.of_below (S := fun j => j = go ∨ j = gc) hx); have HG4 := Lib.hid (show g4 ≠ go ∧ g4 ≠ gc ∧ w.heap.size ≤ g4 from ⟨fun e => (by have := HGO.out.1; omega), fun e => (by have := HGO.out.2; omega), hg⟩); clear hb hx hg) | (with_reducible refine wpList_loadL HLa1.out rfl _ rfl rfl ?_) | (refine wpList_put1 rfl rfl 3 _ _ rfl go 1 (.int .i64 ((left : Int) - 1)) rfl rfl HO1.out (by show 1 < 2; omega) rfl rfl (by kernel_rfl) (opC gc ((left : Int) - 1)) rfl ?_; intro w2 hb ho hs2; have HO2 := Lib.hid hb; have HLa2 := Lib.hid (OpL.of_blk hb).left; have HLb2 := Lib.hid (OpL.of_blk hb).cur; have HN2 := Lib.hid (Agg.Blk.keepO HN1.out ho HG4.out.1); have HC2 := Lib.hid (HC1.out.other ho HO1.out (by decide) (by decide)); have HX2 := Lib.hid (HX1.out.then2 (only2_of ho)); clear hb ho hs2) | (with_reducible refine wpList_loadL HLa2.out rfl _ rfl rfl ?_) | (with_reducible refine wpList_loadL (NdL.of_blk HN2.out).all rfl _ rfl rfl ?_) | (refine Agg.wpList_put rfl rfl 26 _ _ rfl g4 (ndC ndZ) (ndC ndZ) rfl rfl HN2.out (nd_info _) rfl (ndC_one _) ?_; intro wf hb hx hs9 hk; have ho9 := Only.of_eq (S := (· = g4)) hx hs9 hk rfl; have HF := Lib.hid hb; have HXF := Lib.hid (HX2.out.thenNew ho9 HG4.out.2.2); clear hb hx hs9 hk ho9))
   exact post_row_tmp rfl rfl rfl HF.out nd_under rfl (nd_info _) rfl (by rw [HRES.out]; exact ⟨_, rfl, HXF.out⟩)
  ·have dl : decide ((left : Int) - 1 < 0) = false := by simp; omega
   by_cases hd8 : 8 < d
   ·have dd : decide (8 < (d : Int)) = true := by simp; omega
    have HRES := Lib.hid (show opn (f + 1) d left s = none from opn_out (.inr hd8))
    clear h0
    go_wp2_with (first | (refine Agg.wpList_zero rfl 26 rfl (ndC ndZ) nd_zero ?_; intro g4 w1 hb hx hg; have HN1 := Lib.hid hb; have HO1 := Lib.hid (HO.out.below hx); have HLa1 := Lib.hid (OpL.of_blk (HO.out.below hx)).left; have HC1 := Lib.hid (HC.out.below hx); have HX1 := Lib.hid (Only.of_below (S := fun j => j = go ∨ j = gc) hx); have HG4 := Lib.hid (show g4 ≠ go ∧ g4 ≠ gc ∧ w.heap.size ≤ g4 from ⟨fun e => (by have := HGO.out.1; omega), fun e => (by have := HGO.out.2; omega), hg⟩); clear hb hx hg) | (with_reducible refine wpList_loadL HLa1.out rfl _ rfl rfl ?_) | (refine wpList_put1 rfl rfl 3 _ _ rfl go 1 (.int .i64 ((left : Int) - 1)) rfl rfl HO1.out (by show 1 < 2; omega) rfl rfl (by kernel_rfl) (opC gc ((left : Int) - 1)) rfl ?_; intro w2 hb ho hs2; have HO2 := Lib.hid hb; have HLa2 := Lib.hid (OpL.of_blk hb).left; have HLb2 := Lib.hid (OpL.of_blk hb).cur; have HN2 := Lib.hid (Agg.Blk.keepO HN1.out ho HG4.out.1); have HC2 := Lib.hid (HC1.out.other ho HO1.out (by decide) (by decide)); have HX2 := Lib.hid (HX1.out.then2 (only2_of ho)); clear hb ho hs2) | (with_reducible refine wpList_loadL HLa2.out rfl _ rfl rfl ?_) | (with_reducible refine wpList_loadL (NdL.of_blk HN2.out).all rfl _ rfl rfl ?_) | (refine Agg.wpList_put rfl rfl 26 _ _ rfl g4 (ndC ndZ) (ndC ndZ) rfl rfl HN2.out (nd_info _) rfl (ndC_one _) ?_; intro wf hb hx hs9 hk; have ho9 := Only.of_eq (S := (· = g4)) hx hs9 hk rfl; have HF := Lib.hid hb; have HXF := Lib.hid (HX2.out.thenNew ho9 HG4.out.2.2); clear hb hx hs9 hk ho9))
    exact post_row_tmp rfl rfl rfl HF.out nd_under rfl (nd_info _) rfl (by rw [HRES.out]; exact ⟨_, rfl, HXF.out⟩)
   ·have dd : decide (8 < (d : Int)) = false := by simp; omega
    obtain ⟨k, s1, q1⟩ : ∃ k s1, sNum 4 s = (k, s1) := ⟨_, _, rfl⟩
    have hs1 : stLen s1 ≤ 16777216 := by have := sNum_len 4 s; rw [q1] at this; exact Nat.le_trans this hs
    have HL0 := Lib.hid h0
    have HLC := Lib.hid (show ((left - 1 : Nat) : Int) = (left : Int) - 1 by omega)
    have HD8 := Lib.hid (show d ≤ 8 by omega)
    have HQ1 := Lib.hid q1
    clear h0 q1 hd8
    go_wp2_with (first | (refine Agg.wpList_zero rfl 26 rfl (ndC ndZ) nd_zero ?_; intro g4 w1 hb hx hg; have HN1 := Lib.hid hb; have HO1 := Lib.hid (HO.out.below hx); have HLa1 := Lib.hid (OpL.of_blk (HO.out.below hx)).left; have HC1 := Lib.hid (HC.out.below hx); have HX1 := Lib.hid (Only.of_below (S := fun j => j = go ∨ j = gc) hx); have HG4 := Lib.hid (show g4 ≠ go ∧ g4 ≠ gc ∧ w.heap.size ≤ g4 from ⟨fun e => (by have := HGO.out.1; omega), fun e => (by have := HGO.out.2; omega), hg⟩); clear hb hx hg) | (with_reducible refine wpList_loadL HLa1.out rfl _ rfl rfl ?_) | (refine wpList_put1 rfl rfl 3 _ _ rfl go 1 (.int .i64 ((left : Int) - 1)) rfl rfl HO1.out (by show 1 < 2; omega) rfl rfl (by kernel_rfl) (opC gc ((left : Int) - 1)) rfl ?_; intro w2 hb ho hs2; have HO2 := Lib.hid hb; have HLa2 := Lib.hid (OpL.of_blk hb).left; have HLb2 := Lib.hid (OpL.of_blk hb).cur; have HN2 := Lib.hid (Agg.Blk.keepO HN1.out ho HG4.out.1); have HC2 := Lib.hid (HC1.out.other ho HO1.out (by decide) (by decide)); have HX2 := Lib.hid (HX1.out.then2 (only2_of ho)); clear hb ho hs2) | (with_reducible refine wpList_loadL HLa2.out rfl _ rfl rfl ?_) | (with_reducible refine wpList_loadL HLb2.out rfl _ rfl rfl ?_))
    refine (snum_any cb gc 4 s w2 hs (by omega) HC2.out).mono ?_
    rintro e w3 ⟨rfl, hc3, ho3⟩
    rw [HQ1.out] at hc3 ⊢
    have HC3 := Lib.hid hc3
    have HN3 := Lib.hid (Agg.Blk.keepO HN2.out ho3 (fun e => HG4.out.2.1 e))
    have HO3 := Lib.hid (Agg.Blk.keepO HO2.out ho3 HNE.out)
    have HX3 := Lib.hid (HX2.out.then2 (only2_of' ho3))
    clear hc3 ho3
    by_cases h4 : k = 4
    ·have hne : ((k : Int) != 4) = false := by rw [h4]; rfl
     obtain ⟨c, s2, q2⟩ : ∃ c s2, sNum 200 s1 = (c, s2) := ⟨_, _, rfl⟩
     have hc200 : c ≤ 200 := by have := sNum_le 200 s1; rw [q2] at this; exact this
     have hs2 : stLen s2 ≤ 16777216 := by have := sNum_len 200 s1; rw [q2] at this; exact Nat.le_trans this hs1
     have hres := opn_dir (f := f) HL0.out HD8.out (by rw [HQ1.out, h4]) q2
     have HK4 := Lib.hid h4
     have HQ2 := Lib.hid q2
     clear h4 q2
     go_wp2_with (first | (refine wpList_put1 rfl rfl 22 _ _ rfl g4 0 (.int .i64 (k : Int)) rfl rfl HN3.out (by show 0 < 3; omega) rfl rfl (by kernel_rfl) (ndC ((k : Int), svN, svN)) rfl ?_; intro w4 hb ho hs4; have HN4 := Lib.hid hb; have HO4 := Lib.hid (Agg.Blk.keepO HO3.out ho (fun e => HG4.out.1 e.symm)); have HLb4 := Lib.hid (OpL.of_blk HO4.out).cur; have HC4 := Lib.hid (HC3.out.other ho HN3.out (by decide) (by decide)); have HX4 := Lib.hid (HX3.out.thenNew ho HG4.out.2.2); clear hb ho hs4) | (with_reducible refine wpList_loadL (NdL.of_blk HN4.out).kind rfl _ rfl rfl ?_) | (with_reducible refine wpList_loadL HLb4.out rfl _ rfl rfl ?_))
     refine (snum_any cb gc 200 s1 w4 hs1 (by omega) HC4.out).mono ?_
     rintro e w5 ⟨rfl, hc5, ho5⟩
     rw [HQ2.out] at hc5 ⊢
     have HC5 := Lib.hid hc5
     have HN5 := Lib.hid (Agg.Blk.keepO HN4.out ho5 (fun e => HG4.out.2.1 e))
     have HO5 := Lib.hid (Agg.Blk.keepO HO4.out ho5 HNE.out)
     have HX5 := Lib.hid (HX4.out.then2 (only2_of' ho5))
     clear hc5 ho5
     go_wp2_with fail
     obtain ⟨R, hR⟩ : ∃ R, opnL (opn f (d + 1)) c [] (left - 1) s2 = R := ⟨_, rfl⟩
     have HR := Lib.hid hR
     rw [hR] at hres
     have HRES := Lib.hid hres
     clear hR hres
     go_loopw [6, 46] (fun v6 i wr => ∃ (q : Nat) (last : List UInt8) (lft : Nat) (s' : S) (vk : SV) (kk : List KdV) (m : List K) (cs : List Nat), q ≤ c ∧ v6 = .string ⟨last.toArray⟩ ∧ i = .int .i64 (q : Int) ∧ R = andL m (opnL (opn f (d + 1)) (c - q) last lft s') ∧ lft ≤ 200 ∧ stLen s' ≤ 16777216 ∧ kk.length = q ∧ OwnS w.heap.size wr svN.1 [] vk.1 kk m cs ∧ (∀ j ∈ cs, g4 < j) ∧ Blk wr g4 26 (ndC ((k : Int), svN, vk)) ∧ Blk wr go 55 (opC gc (lft : Int)) ∧ CuS cb gc wr s' ∧ Only (fun j => j = go ∨ j = gc) w wr) (fun _ i _ => c - (intOf i).toNat)
     case atStart => exact ⟨0, [], left - 1, s2, svN, [], [], [], by omega, rfl, rfl, by rw [andL_nil]; exact HR.out.symm, by omega, hs2, rfl, ⟨Agg.Own.nil _ _ _, Agg.Own.nil _ _ _, rfl, by simp [svN, ownB, Value.ownBlock]⟩, by simp, HN5.out, by rw [HLC.out]; exact HO5.out, HC5.out, HX5.out⟩
     case round =>
      obtain ⟨wr1, rfl⟩ : ∃ y : World, y = wr := ⟨_, rfl⟩
      obtain ⟨q, last, lft, s', vk, kk, m, cs, hq, rfl, rfl, heq, hlft, hst, hkk, hos, hcs, hn, ho, hcu, hox⟩ := hrel
      have HEQ := Lib.hid heq
      have HKK := Lib.hid hkk
      have HSS := Lib.hid hos
      have HCS := Lib.hid hcs
      have HN := Lib.hid hn
      have HOo := Lib.hid ho
      have HLb := Lib.hid (OpL.of_blk ho).cur
      have HCU := Lib.hid hcu
      have HX := Lib.hid hox
      clear heq hos hcs hn ho hcu hox hkk
      by_cases hlt : q < c
      ·have hlq : decide ((q : Int) < (c : Int)) = true := by simp; omega
       obtain ⟨nm, t1, q3⟩ : ∃ nm t1, sText 24 s' = (nm, t1) := ⟨_, _, rfl⟩
       have ht1 : stLen t1 ≤ 16777216 := by have := sText_len 24 s'; rw [q3] at this; exact Nat.le_trans this hst
       have HQ3 := Lib.hid q3
       have HCQ := Lib.hid (show c - q = (c - (q + 1)) + 1 by omega)
       clear q3
       go_wp2_with (first | (with_reducible refine wpList_loadL HLb.out rfl _ rfl rfl ?_))
       refine (stext_any cb gc 24 s' wr1 hst HCU.out).mono ?_
       rintro e wa ⟨ua, rfl, hu, hca, hoa⟩
       rw [HQ3.out] at hca hu
       have HUa := Lib.hid hu.slice
       have HCa := Lib.hid hca
       have HNa := Lib.hid (Agg.Blk.keepO HN.out hoa (fun e => HG4.out.2.1 e))
       have HOa := Lib.hid (Agg.Blk.keepO HOo.out hoa HNE.out)
       have HSa := Lib.hid (HSS.out.onlyS hoa (fun j hj e => by have := HGO.out.2; omega))
       have HXa := Lib.hid (HX.out.then2 (only2_of' hoa))
       have HWa := Lib.hid hoa.size
       clear hu hca hoa
       cases hb : Op.bytesLess last nm with
       | false =>
        have HLE := Lib.hid (show (!Op.bytesLess last nm) = true by rw [hb]; rfl)
        have HNO := Lib.hid (show R = none by rw [HEQ.out, HCQ.out, opnL_bad HQ3.out hb]; rfl)
        clear hb
        go_wp2_with (first | (with_reducible refine wpList_toStr HUa.out _ rfl rfl rfl ?_) | (with_reducible refine wpList_build1 28 0 _ rfl rfl (.string ⟨nm.toArray⟩) rfl (.agg (kdC (nm, ndZ))) (kd_build1 nm) ?_) | (refine wpList_new rfl rfl rfl 28 7 54 rfl rfl rfl (by decide) (kdC kdZ) (kdC (nm, ndZ)) kd_zero rfl (kd_info _) (kdC_one _) rfl (by first | (simp; done) | simp [Act.put]) ?_; intro g7 wb hb hx hg; have HYb := Lib.hid hb; have HYn := Lib.hid (KdL.ofB hb).name; have HNb := Lib.hid (HNa.out.below hx); have HOb := Lib.hid (HOa.out.below hx); have HCb := Lib.hid (HCa.out.below hx); have HSb := Lib.hid (HSa.out.below hx); have HXb := Lib.hid (HXa.out.thenB hx); have HG7 := Lib.hid (show wr1.heap.size ≤ g7 ∧ g7 ≠ go ∧ g7 ≠ gc ∧ w.heap.size ≤ g7 ∧ g7 ≠ g4 from ⟨Nat.le_trans HWa.out hg, fun e => (by have := HGO.out.1; have := HXa.out.size; omega), fun e => (by have := HGO.out.2; have := HXa.out.size; omega), Nat.le_trans HXa.out.size hg, fun e => (by have := HNa.out.lt; omega)⟩); clear hb hx hg) | (with_reducible refine wpList_loadL HYn.out rfl _ rfl rfl ?_) | (with_reducible refine wpList_leqS rfl rfl rfl rfl true HLE.out ?_) | (with_reducible refine wpList_loadL (NdL.of_blk HNb.out).all rfl _ rfl rfl ?_) | (refine Agg.wpList_put rfl rfl 26 _ _ rfl g4 (ndC ((k : Int), svN, vk)) (ndC ((k : Int), svN, vk)) rfl rfl HNb.out (nd_info _) rfl (ndC_one _) ?_; intro wf hb hx hs9 hk; have ho9 := Only.of_eq (S := (· = g4)) hx hs9 hk rfl; have HF := Lib.hid hb; have HXF := Lib.hid (HXb.out.thenNew ho9 HG4.out.2.2); clear hb hx hs9 hk ho9))
        exact post_row_tmp rfl rfl rfl HF.out nd_under rfl (nd_info _) rfl (by rw [HRES.out, HNO.out]; exact ⟨_, rfl, HXF.out⟩)
       | true =>
        have HLE := Lib.hid (show (!Op.bytesLess last nm) = false by rw [hb]; rfl)
        have HBL := Lib.hid hb
        clear hb
        go_wp2_with (first | (with_reducible refine wpList_toStr HUa.out _ rfl rfl rfl ?_) | (with_reducible refine wpList_build1 28 0 _ rfl rfl (.string ⟨nm.toArray⟩) rfl (.agg (kdC (nm, ndZ))) (kd_build1 nm) ?_) | (refine wpList_new rfl rfl rfl 28 7 54 rfl rfl rfl (by decide) (kdC kdZ) (kdC (nm, ndZ)) kd_zero rfl (kd_info _) (kdC_one _) rfl (by first | (simp; done) | simp [Act.put]) ?_; intro g7 wb hb hx hg; have HYb := Lib.hid hb; have HYn := Lib.hid (KdL.ofB hb).name; have HNb := Lib.hid (HNa.out.below hx); have HOb := Lib.hid (HOa.out.below hx); have HCb := Lib.hid (HCa.out.below hx); have HSb := Lib.hid (HSa.out.below hx); have HXb := Lib.hid (HXa.out.thenB hx); have HG7 := Lib.hid (show wr1.heap.size ≤ g7 ∧ g7 ≠ go ∧ g7 ≠ gc ∧ w.heap.size ≤ g7 ∧ g7 ≠ g4 from ⟨Nat.le_trans HWa.out hg, fun e => (by have := HGO.out.1; have := HXa.out.size; omega), fun e => (by have := HGO.out.2; have := HXa.out.size; omega), Nat.le_trans HXa.out.size hg, fun e => (by have := HNa.out.lt; omega)⟩); clear hb hx hg) | (with_reducible refine wpList_loadL HYn.out rfl _ rfl rfl ?_) | (with_reducible refine wpList_leqS rfl rfl rfl rfl false HLE.out ?_))
        obtain ⟨rr, hrr⟩ : ∃ rr, opn f (d + 1) lft t1 = rr := ⟨_, rfl⟩
        have HRR := Lib.hid hrr
        have hcall := HIH.out (d + 1) lft t1 cb go gc wb (by omega) (by have := HD8.out; omega) hlft ht1 (Nat.le_trans hcb HXb.out.size) HOb.out HCb.out
        rw [hrr, show ((d + 1 : Nat) : Int) = (d : Int) + 1 by omega] at hcall
        clear hrr
        refine hcall.mono ?_
        clear hcall
        cases rr with
        | none =>
         rintro e wc ⟨x2, rfl, hoc⟩
         have HNO := Lib.hid (show R = none by rw [HEQ.out, HCQ.out, opnL_none' HQ3.out HRR.out]; rfl)
         have HYc := Lib.hid (Agg.Blk.keepO HYb.out hoc (fun h => h.elim HG7.out.2.1 HG7.out.2.2.1))
         have HNc := Lib.hid (Agg.Blk.keepO HNb.out hoc (fun h => h.elim HG4.out.1 HG4.out.2.1))
         have HXc := Lib.hid (HXb.out.then2 hoc)
         clear hoc
         go_wp2_with (first | (refine Agg.wpList_putRow rfl rfl 26 _ _ rfl g7 1 #[.string ⟨nm.toArray⟩] (ndC ndZ) #[] (ndC x2) rfl rfl HYc.out rfl rfl (nd_info _) (ndC_one _) ?_; intro wd hb ho; have HYd := Lib.hid (show Blk wd g7 28 (kdC (nm, x2)) from hb); have HNd := Lib.hid (Agg.Blk.keepO HNc.out ho (fun e => HG7.out.2.2.2.2 e.symm)); have HXd := Lib.hid (HXc.out.thenNew ho HG7.out.2.2.2.1); clear hb ho) | (with_reducible refine wpList_loadL (NdL.of_blk HNd.out).all rfl _ rfl rfl ?_) | (refine Agg.wpList_put rfl rfl 26 _ _ rfl g4 (ndC ((k : Int), svN, vk)) (ndC ((k : Int), svN, vk)) rfl rfl HNd.out (nd_info _) rfl (ndC_one _) ?_; intro wf hb hx hs9 hk; have ho9 := Only.of_eq (S := (· = g4)) hx hs9 hk rfl; have HF := Lib.hid hb; have HXF := Lib.hid (HXd.out.thenNew ho9 HG4.out.2.2); clear hb hx hs9 hk ho9))
         exact post_row_tmp rfl rfl rfl HF.out nd_under rfl (nd_info _) rfl (by rw [HRES.out, HNO.out]; exact ⟨_, rfl, HXF.out⟩)
        | some r =>
         obtain ⟨t2, l2, s3⟩ := r
         rintro e wc ⟨x2, rfl, ⟨b2, ho2, hn2⟩, hgo, hcu, hoc⟩
         have hle := opn_le f (d + 1) lft t1 _ HRR.out
         have hl2 : l2 ≤ 200 := Nat.le_trans hle.1 hlft
         have hs3 : stLen s3 ≤ 16777216 := Nat.le_trans hle.2 ht1
         have HO2 := Lib.hid ho2
         have HN2' := Lib.hid hn2
         have HRG := Lib.hid (show ∀ j ∈ b2, wb.heap.size ≤ j from fun j hj => (OwnT.range t2 x2 b2 ho2 j hj).1)
         have HYc := Lib.hid (Agg.Blk.keepO HYb.out hoc (fun h => h.elim HG7.out.2.1 HG7.out.2.2.1))
         have HNc := Lib.hid (Agg.Blk.keepO HNb.out hoc (fun h => h.elim HG4.out.1 HG4.out.2.1))
         have HSc := Lib.hid (HSb.out.onlyS hoc (fun j hj e => by have := HGO.out; omega))
         have HOc := Lib.hid hgo
         have HCc := Lib.hid hcu
         have HXc := Lib.hid (HXb.out.then2 hoc)
         clear ho2 hn2 hgo hcu hoc hle
         go_wp2_with (first | (refine Agg.wpList_putRow rfl rfl 26 _ _ rfl g7 1 #[.string ⟨nm.toArray⟩] (ndC ndZ) #[] (ndC x2) rfl rfl HYc.out rfl rfl (nd_info _) (ndC_one _) ?_; intro wd hb ho; have HYd := Lib.hid (show Blk wd g7 28 (kdC (nm, x2)) from hb); have HNd := Lib.hid (Agg.Blk.keepO HNc.out ho (fun e => HG7.out.2.2.2.2 e.symm)); have HXd := Lib.hid (HXc.out.thenNew ho HG7.out.2.2.2.1); have HOd := Lib.hid (Agg.Blk.keepO HOc.out ho (fun e => HG7.out.2.1 e.symm)); have HCd := Lib.hid (HCc.out.other ho HYc.out (by decide) (by decide)); have HSd := Lib.hid (HSc.out.onlyR ho (fun j hj e => by have h1 := (HSS.out.range j hj).2; have h2 := HG7.out.1; omega)); have HO2d := Lib.hid (OwnT.only ho t2 x2 b2 HO2.out (fun j hj e => by have h1 := HRG.out j hj; have h2 := HYb.out.lt; omega)); clear hb ho) | (with_reducible refine wpList_loadL (NdL.of_blk HNd.out).kids rfl _ rfl rfl ?_) | (with_reducible refine wpList_loadL (KdL.ofB HYd.out).all rfl _ rfl rfl ?_) | (refine Agg.wpList_pushO (E := EK) (base := w.heap.size) rfl rfl 76 rfl _ rfl _ rfl (nm, x2) rfl (fun _ => rfl) (by first | (simp; done) | simp [Act.put]) HSd.out.row (by have := HKK.out; omega) (by decide) HXd.out.size ?_; intro u76 v77 we hok hp hgr; obtain ⟨vk2, hv2⟩ := own_sv hok; rw [hv2] at hok hgr ⊢; have HSe := Lib.hid (HSd.out.push (y := (nm, x2)) (OwnT.lowerB HXb.out.size t2 x2 b2 HO2d.out) HN2'.out (fun i hi j hj => by have h1 := (HSS.out.range i hi).2; have h2 := HRG.out j hj; have h3 := HWa.out; have h4 := HYb.out.lt; have h5 := HG7.out.1; omega) hok hp hgr); have HNe := Lib.hid (hp.blk g4 _ _ _ (by decide) HNd.out); have HOe := Lib.hid (hp.blk go _ _ _ (by decide) HOd.out); have HCe := Lib.hid (HCd.out.pushed hp (by decide) (by decide)); have HXe := Lib.hid (only_pushed HXd.out HSd.out.row hp (Nat.le_refl _)); have HLe := Lib.hid (show ∀ j ∈ cs ++ b2, g4 < j from fun j hj => (List.mem_append.1 hj).elim (fun h => HCS.out j h) (fun h => by have h1 := HRG.out j h; have h2 := HNb.out.lt; omega)); clear hok hp hgr hv2) | (refine wpList_put1 rfl rfl 24 _ _ rfl g4 2 vk2.1 rfl rfl HNe.out (by show 2 < 3; omega) (sv_cells vk2) (sv_oneT vk2) (by kernel_rfl) (ndC ((k : Int), svN, vk2)) rfl ?_; intro wg hb ho hs9; have HNf := Lib.hid hb; have HSf := Lib.hid (HSe.out.other ho HNe.out (by decide) (by decide) (fun h => by have := HLe.out g4 h; omega)); have HLf := HLe; have HOf := Lib.hid (Agg.Blk.keepO HOe.out ho (fun e => HG4.out.1 e.symm)); have HCf := Lib.hid (HCe.out.other ho HNe.out (by decide) (by decide)); have HXf := Lib.hid (HXe.out.thenNew ho HG4.out.2.2); clear hb ho hs9))
         go_roundw
         case rel =>
          refine ⟨q + 1, nm, l2, s3, vk2, kk ++ [(nm, x2)], m ++ [(nm, t2)], cs ++ b2, by omega, rfl, by go_num, ?_, hl2, hs3, by rw [List.length_append, HKK.out]; rfl, HSf.out, HLf.out, HNf.out, HOf.out, HCf.out, HXf.out⟩
          rw [HEQ.out, HCQ.out, opnL_kid HQ3.out HBL.out HRR.out]
         case measure => simp [intOf]; omega
      ·obtain rfl : q = c := by omega
       have hlq : decide (((q : Nat) : Int) < ((q : Nat) : Int)) = false := by simp
       have HRS := Lib.hid (show R = some (m, lft, s') by rw [HEQ.out, Nat.sub_self]; simp [opnL, andL])
       go_wp2_with (first | (with_reducible refine wpList_loadL (NdL.of_blk HN.out).all rfl _ rfl rfl ?_) | (refine Agg.wpList_put rfl rfl 26 _ _ rfl g4 (ndC ((k : Int), svN, vk)) (ndC ((k : Int), svN, vk)) rfl rfl HN.out (nd_info _) rfl (ndC_one _) ?_; intro wf hb hx hs9 hk; have ho9 := Only.of_eq (S := (· = g4)) hx hs9 hk rfl; have HF := Lib.hid hb; have HXF := Lib.hid (HX.out.thenNew ho9 HG4.out.2.2); have HSF := Lib.hid (HSS.out.other ho9 HN.out (by decide) (by decide) (fun h => by have := HCS.out g4 h; omega)); have HOF := Lib.hid (Agg.Blk.keepO HOo.out ho9 (fun e => HG4.out.1 e.symm)); have HCF := Lib.hid (HCU.out.other ho9 HN.out (by decide) (by decide)); clear hb hx hs9 hk ho9))
       exact post_row_tmp rfl rfl rfl HF.out nd_under rfl (nd_info _) rfl (by rw [HRES.out, HRS.out]; exact ⟨_, rfl, by rw [← show ((k : Nat) : Int) = 4 by rw [HK4.out]; rfl]; exact HSF.out.node, HOF.out, HCF.out, HXF.out⟩)
    ·have hne : ((k : Int) != 4) = true := by simp; omega
     obtain ⟨b, s2, q2⟩ : ∃ b s2, sText 2048 s1 = (b, s2) := ⟨_, _, rfl⟩
     have HRES := Lib.hid (opn_file (f := f) HL0.out HD8.out HQ1.out h4 q2)
     have HQ2 := Lib.hid q2
     clear h4 q2
     go_wp2_with (first | (refine wpList_put1 rfl rfl 22 _ _ rfl g4 0 (.int .i64 (k : Int)) rfl rfl HN3.out (by show 0 < 3; omega) rfl rfl (by kernel_rfl) (ndC ((k : Int), svN, svN)) rfl ?_; intro w4 hb ho hs4; have HN4 := Lib.hid hb; have HO4 := Lib.hid (Agg.Blk.keepO HO3.out ho (fun e => HG4.out.1 e.symm)); have HLb4 := Lib.hid (OpL.of_blk HO4.out).cur; have HC4 := Lib.hid (HC3.out.other ho HN3.out (by decide) (by decide)); have HX4 := Lib.hid (HX3.out.thenNew ho HG4.out.2.2); clear hb ho hs4) | (with_reducible refine wpList_loadL (NdL.of_blk HN4.out).kind rfl _ rfl rfl ?_) | (with_reducible refine wpList_loadL HLb4.out rfl _ rfl rfl ?_))
     refine (stext_any cb gc 2048 s1 w4 hs1 HC4.out).mono ?_
     rintro e w5 ⟨u5, rfl, hu, hc5, ho5⟩
     rw [HQ2.out] at hu hc5
     obtain ⟨ub, rfl⟩ := own_sv hu
     have HU5 := Lib.hid (hu.lower HX4.out.size)
     have HC5 := Lib.hid hc5
     have HN5 := Lib.hid (Agg.Blk.keepO HN4.out ho5 (fun e => HG4.out.2.1 e))
     have HO5 := Lib.hid (Agg.Blk.keepO HO4.out ho5 HNE.out)
     have HX5 := Lib.hid (HX4.out.then2 (only2_of' ho5))
     clear hu hc5 ho5
     go_wp2_with (first | (refine wpList_put1 rfl rfl 23 _ _ rfl g4 1 ub.1 rfl rfl HN5.out (by show 1 < 3; omega) (sv_cells ub) (sv_oneT ub) (by kernel_rfl) (ndC ((k : Int), ub, svN)) rfl ?_; intro w6 hb ho hs9; have HN6 := Lib.hid hb; have HU6 := Lib.hid (Own.onlyB HU5.out ho HN5.out (by decide)); have HO6 := Lib.hid (Agg.Blk.keepO HO5.out ho (fun e => HG4.out.1 e.symm)); have HC6 := Lib.hid (HC5.out.other ho HN5.out (by decide) (by decide)); have HX6 := Lib.hid (HX5.out.thenNew ho HG4.out.2.2); clear hb ho hs9) | (with_reducible refine wpList_loadL (NdL.of_blk HN6.out).all rfl _ rfl rfl ?_) | (refine Agg.wpList_put rfl rfl 26 _ _ rfl g4 (ndC ((k : Int), ub, svN)) (ndC ((k : Int), ub, svN)) rfl rfl HN6.out (nd_info _) rfl (ndC_one _) ?_; intro wf hb hx hs9 hk; have ho9 := Only.of_eq (S := (· = g4)) hx hs9 hk rfl; have HF := Lib.hid hb; have HXF := Lib.hid (HX6.out.thenNew ho9 HG4.out.2.2); have HUF := Lib.hid (Own.onlyB HU6.out ho9 HN6.out (by decide)); have HOF := Lib.hid (Agg.Blk.keepO HO6.out ho9 (fun e => HG4.out.1 e.symm)); have HCF := Lib.hid (HC6.out.other ho9 HN6.out (by decide) (by decide)); clear hb hx hs9 hk ho9))
     exact post_row_tmp rfl rfl rfl HF.out nd_under rfl (nd_info _) rfl (by rw [HRES.out]; exact ⟨_, rfl, (OwnS.mk HUF.out (Agg.Own.nil _ _ _) rfl (by simpa [svN, ownB, Value.ownBlock] using ownB_nodup ub.1) : OwnS w.heap.size wf ub.1 b svN.1 [] [] []).node, by rw [HLC.out]; exact HOF.out, HCF.out, HXF.out⟩)
end Go.Proofs.YtfiadgdinhmgbaaGreatDoor
/-! pack.Open. -/
namespace Go.Tr
open Go.Proofs.YtfiadgdinhmgbaaGreatDoor Go.Agg
theorem opE_not {b : List UInt8} (hl : b.length ≤ 4096) (h : openT b = none) : opE b = 4 ∧ opT b = zT := by
 have e : opE b = 4 := by simp [opE, hl, h]
 exact ⟨e, opT_not (by rw [e]; omega)⟩
end Go.Tr
namespace Go.Proofs.YtfiadgdinhmgbaaGreatDoor
open Go.RowKit Pl Go.Agg Go.Tr
theorem ownN_zero (base : Nat) (w : World) : OwnN base w ndZ zT := ⟨[], ⟨rfl, Agg.Own.nil _ _ _, [], [], Agg.Own.nil _ _ _, rfl, rfl⟩, List.nodup_nil⟩
theorem op_build (gc : Nat) (W : World) : (Instr.build 55 #[(0, .pointer (some ⟨gc, 0, none⟩)), (1, .int .i64 200)]).run Tryz.prog W = .ok (.agg (opC gc 200)) W := by kernel_rfl
theorem wpList_b2 {P : Program} {ops : Array Oper} {rest : List Oper} {o : Oper} {a : Act} {w : World} {Q : Exit → Act → World → Prop} (ty : TypeId) (i j : Nat) (x y : Operand) (ho : o.op = .build ty #[(i, x), (j, y)]) (hw : Region.wanted o (yielded ops a.tmps) = true)
  (vx vy : Value) (hx : a.eval x = vx) (hy : a.eval y = vy) (v : Value) (hrun : ∀ w, (Instr.build ty #[(i, vx), (j, vy)]).run P w = .ok v w) (h : wpList P ops Q rest (a.put o.dst v) w) : wpList P ops Q (o :: rest) a w :=
 wpList_valw hw (exec_b2 ho hx hy (hrun w)) h
theorem OwnN.otherB {base : Nat} {w w' : World} {x : NdV} {t : T} {S : Nat → Prop} (h : OwnN base w x t) (ho : Only S w w') (hS : ∀ j, base ≤ j → ¬ S j) : OwnN base w' x t := by
 obtain ⟨bs, h1, h2⟩ := h
 exact ⟨bs, OwnT.only ho t x bs h1 (fun k hk => hS k (OwnT.range t x bs h1 k hk).1), h2⟩
set_option maxRecDepth 100000 in
set_option maxHeartbeats 8000000 in
theorem open_any (v : Value) (b : List UInt8) (w : World) (hl : b.length ≤ 1048576) (hb : BytesAt w v b) :
  Calls Tryz.prog 11 #[v] w fun e w' => ∃ x, e = .returned (.tuple #[.agg (ndC x), .int .i64 (opE b : Int)]) ∧ OwnN w.heap.size w' x (opT b) ∧ Below w.heap.size w w' := by
 have hlv := fun W => bytes_len hb W
 have HB := Lib.hid hb
 clear hb
 by_cases hc : 4096 < b.length
 ·have hd : decide (4096 < (b.length : Int)) = true := by simp; omega
  have HE := Lib.hid (show opE b = 3 ∧ opT b = zT by
   have e : opE b = 3 := by simp [opE]; omega
   exact ⟨e, opT_not (by rw [e]; omega)⟩)
  go_enter Tryz.func11, Tryz.ntmps11
  go_wp2_with (first | (refine Agg.wpList_zero rfl 26 rfl (ndC ndZ) nd_zero ?_; intro g2 w1 hb hx hg; have HN1 := Lib.hid hb; have HX1 := Lib.hid hx; have HG2 := Lib.hid (show w.heap.size ≤ g2 from hg); clear hb hx hg) | (with_reducible refine wpList_build0 26 rfl rfl (.agg (ndC ndZ)) nd_build0 ?_) | (refine Agg.wpList_put rfl rfl 26 _ _ rfl g2 (ndC ndZ) (ndC ndZ) rfl rfl HN1.out (nd_info _) rfl (ndC_one _) ?_; intro wf hb hx hs9 hk; have ho9 := Only.of_eq (S := (· = g2)) hx hs9 hk rfl; have HF := Lib.hid hb; have HXF := Lib.hid (HX1.out.trans (ho9.below (B := w.heap.size) HX1.out.size (fun i hi => by subst hi; exact HG2.out))); clear hb hx hs9 hk ho9))
  exact post_row_tmp rfl rfl rfl HF.out nd_under rfl (nd_info _) rfl ⟨ndZ, by rw [HE.out.1]; rfl, by rw [HE.out.2]; exact ownN_zero _ _, HXF.out⟩
 ·have hd : decide (4096 < (b.length : Int)) = false := by simp; omega
  have hl4 : b.length ≤ 4096 := by omega
  clear hc
  obtain ⟨r, hr⟩ : ∃ r, opn 9 1 200 (some b) = r := ⟨_, rfl⟩
  have HR := Lib.hid hr
  clear hr
  go_enter Tryz.func11, Tryz.ntmps11
  go_wp2_with (first | (refine Agg.wpList_zero rfl 26 rfl (ndC ndZ) nd_zero ?_; intro g2 w1 hb hx hg; have HN1 := Lib.hid hb; have HX1 := Lib.hid hx; have HG2 := Lib.hid (show w.heap.size ≤ g2 from hg); clear hb hx hg))
  refine (over_any v b w1 (by omega) (SliceOf.below HB.out HX1.out)).mono ?_
  rintro e w2 ⟨gc, vc, rfl, hgc, hcu, hx⟩
  have HC2 := Lib.hid (CuS.good hcu)
  have HN2 := Lib.hid (HN1.out.below hx)
  have HX2 := Lib.hid (belowThen HX1.out (Nat.le_refl _) hx)
  have HGC := Lib.hid (Nat.le_trans HX1.out.size hgc)
  have HW1 := Lib.hid hx.size
  clear hcu hx hgc
  go_wp2_with (first | (with_reducible refine wpList_b2 55 0 1 _ _ rfl rfl (.pointer (some ⟨gc, 0, none⟩)) (.int .i64 200) rfl rfl (.agg (opC gc 200)) (op_build gc) ?_) | (refine wpList_box rfl 55 _ rfl (opC gc 200) rfl ?_; intro go w3 hb hx hg; have HO3 := Lib.hid hb; have HN3 := Lib.hid (HN2.out.below hx); have HC3 := Lib.hid (HC2.out.below hx); have HX3 := Lib.hid (belowThen HX2.out (Nat.le_refl _) hx); have HGO := Lib.hid (Nat.le_trans HX2.out.size hg); have HW3 := Lib.hid hx.size; have HG5 := Lib.hid (show g2 ≠ go ∧ g2 ≠ gc from ⟨fun e => (by have := HN2.out.lt; omega), fun e => (by subst e; obtain ⟨_, hbb⟩ := HC2.out.blk; exact absurd (HN2.out.type hbb) (by decide))⟩); clear hb hx hg))
  have hcall := node_any 9 1 200 (some b) w1.heap.size go gc w3 (by omega) (by omega) (by omega) (by simp [stLen]; omega) (Nat.le_trans HW1.out HW3.out) HO3.out HC3.out
  rw [HR.out] at hcall
  refine hcall.mono ?_
  clear hcall
  cases r with
  | none =>
   have HE := Lib.hid (opE_not hl4 (by simp [openT, HR.out]))
   rintro e w4 ⟨x4, rfl, ho4⟩
   have HN4 := Lib.hid (Agg.Blk.keepO HN3.out ho4 (fun h => h.elim (fun e => HG5.out.1 e) (fun e => HG5.out.2 e)))
   have HX4 := Lib.hid (HX3.out.trans (ho4.below HX3.out.size (fun i hi => by rcases hi with rfl | rfl; exact HGO.out; exact HGC.out)))
   clear ho4
   go_wp2_with (first | (refine wpList_new rfl rfl rfl 26 5 18 rfl rfl rfl (by decide) (ndC ndZ) (ndC x4) nd_zero rfl (nd_info _) (ndC_one _) rfl (by first | (simp; done) | simp [Act.put]) ?_; intro g5 w5 hb hx hg; have HY5 := Lib.hid hb; have HN5 := Lib.hid (HN4.out.below hx); have HX5 := Lib.hid (belowThen HX4.out (Nat.le_refl _) hx); clear hb hx hg) | (with_reducible refine wpList_build0 26 rfl rfl (.agg (ndC ndZ)) nd_build0 ?_) | (refine Agg.wpList_put rfl rfl 26 _ _ rfl g2 (ndC ndZ) (ndC ndZ) rfl rfl HN5.out (nd_info _) rfl (ndC_one _) ?_; intro wf hb hx hs9 hk; have ho9 := Only.of_eq (S := (· = g2)) hx hs9 hk rfl; have HF := Lib.hid hb; have HXF := Lib.hid (HX5.out.trans (ho9.below (B := w.heap.size) HX5.out.size (fun i hi => by subst hi; exact HG2.out))); clear hb hx hs9 hk ho9))
   exact post_row_tmp rfl rfl rfl HF.out nd_under rfl (nd_info _) rfl ⟨ndZ, by rw [HE.out.1]; rfl, by rw [HE.out.2]; exact ownN_zero _ _, HXF.out⟩
  | some r =>
   obtain ⟨t, l9, s9⟩ := r
   rintro e w4 ⟨x4, rfl, hown, hgo, hcu, ho4⟩
   have HOW4 := Lib.hid hown
   have HO4 := Lib.hid hgo
   have HC4 := Lib.hid hcu
   have HN4 := Lib.hid (Agg.Blk.keepO HN3.out ho4 (fun h => h.elim (fun e => HG5.out.1 e) (fun e => HG5.out.2 e)))
   have HX4 := Lib.hid (HX3.out.trans (ho4.below HX3.out.size (fun i hi => by rcases hi with rfl | rfl; exact HGO.out; exact HGC.out)))
   have HG45 := Lib.hid (show g2 < w3.heap.size from HN3.out.lt)
   clear hown hgo hcu ho4
   go_wp2_with (first | (refine wpList_new rfl rfl rfl 26 5 18 rfl rfl rfl (by decide) (ndC ndZ) (ndC x4) nd_zero rfl (nd_info _) (ndC_one _) rfl (by first | (simp; done) | simp [Act.put]) ?_; intro g5 w5 hb hx hg; have HY5 := Lib.hid hb; have HN5 := Lib.hid (HN4.out.below hx); have HX5 := Lib.hid (belowThen HX4.out (Nat.le_refl _) hx); have HC5 := Lib.hid (HC4.out.below hx); have HLb5 := Lib.hid (OpL.of_blk (HO4.out.below hx)).cur; have HOW5 := Lib.hid (HOW4.out.below hx); clear hb hx hg) | (with_reducible refine wpList_loadL HLb5.out rfl _ rfl rfl ?_))
   refine (send_any w1.heap.size gc s9 w5 HC5.out).mono ?_
   rintro e w6 ⟨⟨ce, rfl, hce⟩, rfl⟩
   by_cases hc0 : ce = 0
   ·have hcd : ((ce : Int) != 0) = false := by rw [hc0]; rfl
    have HS9 := Lib.hid (hce.1 hc0)
    clear hc0 hce
    go_wp2_with (first | (with_reducible refine wpList_loadL (NdL.of_blk HY5.out).all rfl _ rfl rfl ?_))
    refine (tright_any (.agg (ndC x4)) t w6 ⟨x4, rfl, HOW5.out.reads⟩).mono ?_
    rintro e w7 ⟨rfl, hx⟩
    have HOW7 := Lib.hid (HOW5.out.below hx)
    have HY7 := Lib.hid (NdL.of_blk (HY5.out.below hx)).all
    have HN7 := Lib.hid (HN5.out.below hx)
    have HX7 := Lib.hid (belowThen HX5.out (Nat.le_refl _) hx)
    have HW7 := Lib.hid hx.size
    clear hx
    cases hrt : right t with
    | false =>
     have HE := Lib.hid (opE_not hl4 (by simp [openT, HR.out, HS9.out, hrt]))
     clear hrt
     go_wp2_with (first | (with_reducible refine wpList_build0 26 rfl rfl (.agg (ndC ndZ)) nd_build0 ?_) | (refine Agg.wpList_put rfl rfl 26 _ _ rfl g2 (ndC ndZ) (ndC ndZ) rfl rfl HN7.out (nd_info _) rfl (ndC_one _) ?_; intro wf hb hx hs9 hk; have ho9 := Only.of_eq (S := (· = g2)) hx hs9 hk rfl; have HF := Lib.hid hb; have HXF := Lib.hid (HX7.out.trans (ho9.below (B := w.heap.size) HX7.out.size (fun i hi => by subst hi; exact HG2.out))); clear hb hx hs9 hk ho9))
     exact post_row_tmp rfl rfl rfl HF.out nd_under rfl (nd_info _) rfl ⟨ndZ, by rw [HE.out.1]; rfl, by rw [HE.out.2]; exact ownN_zero _ _, HXF.out⟩
    | true =>
     have HE := Lib.hid (show opE b = 0 ∧ opT b = t from opE_of hl4 (by simp [openT, HR.out, HS9.out, hrt]))
     clear hrt
     go_wp2_with (first | (with_reducible refine wpList_loadL HY7.out rfl _ rfl rfl ?_) | (refine Agg.wpList_put rfl rfl 26 _ _ rfl g2 (ndC x4) (ndC ndZ) rfl rfl HN7.out (nd_info _) rfl (ndC_one _) ?_; intro wf hb hx hs9 hk; have ho9 := Only.of_eq (S := (· = g2)) hx hs9 hk rfl; have HF := Lib.hid hb; have HXF := Lib.hid (HX7.out.trans (ho9.below (B := w.heap.size) HX7.out.size (fun i hi => by subst hi; exact HG2.out))); have HOWF := Lib.hid (OwnN.lower (OwnN.otherB HOW7.out ho9 (fun j hj e => by have := HG45.out; omega)) HX3.out.size); clear hb hx hs9 hk ho9))
     exact post_row_tmp rfl rfl rfl HF.out nd_under rfl (nd_info _) rfl ⟨x4, by rw [HE.out.1]; rfl, by rw [HE.out.2]; exact HOWF.out, HXF.out⟩
   ·have hcd : ((ce : Int) != 0) = true := by simp; omega
    have HS9 := Lib.hid (show s9 ≠ some [] from fun h => hc0 (hce.2 h))
    have HE := Lib.hid (opE_not hl4 (by
     have h := HS9.out
     unfold openT
     rw [HR.out]
     cases s9 with
     | none => rfl
     | some y => cases y with
      | nil => exact absurd rfl h
      | cons a y => rfl))
    clear hc0 hce
    go_wp2_with (first | (with_reducible refine wpList_build0 26 rfl rfl (.agg (ndC ndZ)) nd_build0 ?_) | (refine Agg.wpList_put rfl rfl 26 _ _ rfl g2 (ndC ndZ) (ndC ndZ) rfl rfl HN5.out (nd_info _) rfl (ndC_one _) ?_; intro wf hb hx hs9 hk; have ho9 := Only.of_eq (S := (· = g2)) hx hs9 hk rfl; have HF := Lib.hid hb; have HXF := Lib.hid (HX5.out.trans (ho9.below (B := w.heap.size) HX5.out.size (fun i hi => by subst hi; exact HG2.out))); clear hb hx hs9 hk ho9))
    exact post_row_tmp rfl rfl rfl HF.out nd_under rfl (nd_info _) rfl ⟨ndZ, by rw [HE.out.1]; rfl, by rw [HE.out.2]; exact ownN_zero _ _, HXF.out⟩
end Go.Proofs.YtfiadgdinhmgbaaGreatDoor
