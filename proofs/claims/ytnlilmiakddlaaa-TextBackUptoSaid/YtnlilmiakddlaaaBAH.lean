/- text.must, text.lines: the lines of a text, each ended; a panic where one is not. -/
import Derived.Test.YtnlilmiakddlaaaBAC
import Derived.Test.YtnlilmiakddlaaaBAE
import Derived.Test.YtnlilmiakddlaaaBAG
namespace Go.Proofs.Ytnlilmiakddlaaa
open Pl
abbrev Lin := List UInt8 × List UInt8
/-- a text's lines, by their first word; whether all are ended and have one -/
def lns (s : List UInt8) : List Lin × Bool :=
  if s = [] then ([], true)
  else if _h : (cut1 10 s).2.2 = true then
    if (cut1 32 (cut1 10 s).1).2.2 then (((cut1 32 (cut1 10 s).1).1, (cut1 32 (cut1 10 s).1).2.1) :: (lns (cut1 10 s).2.1).1, (lns (cut1 10 s).2.1).2)
    else ([], false)
  else ([], false)
termination_by s.length
decreasing_by all_goals exact cut1_less 10 s (by assumption)
theorem lns_nil : lns [] = ([], true) := by rw [lns, if_pos rfl]
theorem lns_open {s : List UInt8} (hs : s ≠ []) (h : (cut1 10 s).2.2 = false) : lns s = ([], false) := by
  rw [lns, if_neg hs, dif_neg (by rw [h]; simp)]
theorem lns_word {s : List UInt8} (hs : s ≠ []) (h : (cut1 10 s).2.2 = true) (hw : (cut1 32 (cut1 10 s).1).2.2 = false) : lns s = ([], false) := by
  rw [lns, if_neg hs, dif_pos h, if_neg (by rw [hw]; simp)]
theorem lns_line {s : List UInt8} (hs : s ≠ []) (h : (cut1 10 s).2.2 = true) (hw : (cut1 32 (cut1 10 s).1).2.2 = true) :
    lns s = (((cut1 32 (cut1 10 s).1).1, (cut1 32 (cut1 10 s).1).2.1) :: (lns (cut1 10 s).2.1).1, (lns (cut1 10 s).2.1).2) := by
  rw [lns, if_neg hs, dif_pos h, if_pos hw]
/-- the program's reading, a line at a time -/
def tgFold : List Lin → TgS → Option TgS
  | [], st => some st
  | x :: l, st => (tgStep st x.1 x.2).bind (tgFold l)
theorem tgFold_snoc (x : Lin) : ∀ (l : List Lin) (st : TgS), tgFold (l ++ [x]) st = (tgFold l st).bind fun s => tgStep s x.1 x.2
  | [], st => by simp [tgFold]
  | y :: l, st => by
    simp only [List.cons_append, tgFold]
    cases h : tgStep st y.1 y.2 with
    | none => rfl
    | some s => simp only [Option.bind_some]; exact tgFold_snoc x l s
theorem tgRead_lns : ∀ (n : Nat) {s : List UInt8} {st : TgS}, s.length ≤ n → tgRead s st = if (lns s).2 then tgFold (lns s).1 st else none := by
  intro n
  induction n with
  | zero =>
    intro s st hn
    have : s = [] := List.length_eq_zero_iff.1 (by omega)
    subst this
    rw [tgRead, if_pos rfl, lns_nil]; rfl
  | succ n ih =>
    intro s st hn
    by_cases hs : s = []
    · subst hs; rw [tgRead, if_pos rfl, lns_nil]; rfl
    · rw [tgRead, if_neg hs]
      cases hc : (cut1 10 s).2.2 with
      | false => rw [lns_open hs hc]; simp
      | true =>
        have hl := cut1_less 10 s hc
        simp only [dif_pos]
        cases hw : (cut1 32 (cut1 10 s).1).2.2 with
        | false => rw [lns_word hs hc hw]; simp
        | true =>
          rw [lns_line hs hc hw]
          simp only [if_true, tgFold]
          cases ht : tgStep st (cut1 32 (cut1 10 s).1).1 (cut1 32 (cut1 10 s).1).2.1 with
          | none => simp
          | some st' => simp only [Option.bind_some]; exact ih (by omega)
end Go.Proofs.Ytnlilmiakddlaaa
namespace Go.Agg
open Go.RowKit
theorem wpListIn_store {F : Fence} {n : Nat} {P : Program} {ops : Array Oper} {rest : List Oper} {o : Oper} {a : Act} {w w' : World} {Q : Exit → Act → World → Prop} (hF : ∀ f, F.fn f) (hw : Region.wanted o (yielded ops a.tmps) = true) (hd : o.dst = none) (ty : TypeId) (x y : Operand) (ho : o.op = .store ty x y) (p v : Value) (hx : a.eval x = p) (hy : a.eval y = v)
    (hrun : (Instr.storeAt ty p v).run P w = .ok () w') (h : wpListIn F n P ops Q rest a w') : wpListIn F n P ops Q (o :: rest) a w :=
  wpListIn_skpR hF hw (by unfold Oper.plainB; rw [ho]) hd (by simp [execOp, ho, hx, hy, hrun]) h
theorem wpListIn_neqS {F : Fence} {n : Nat} {P : Program} {ops : Array Oper} {rest : List Oper} {o : Oper} {a : Act} {w : World} {Q : Exit → Act → World → Prop} {t u : TypeId} {x y : Operand} {s r : List UInt8} (hF : ∀ f, F.fn f) (hw : Region.wanted o (yielded ops a.tmps) = true) (ho : o.op = .binOp .neq t x y u) (hx : a.eval x = .string ⟨s.toArray⟩) (hy : a.eval y = .string ⟨r.toArray⟩) (b : Bool) (hb : (!decide (s = r)) = b)
    (h : wpListIn F n P ops Q rest (a.put o.dst (.bool b)) w) : wpListIn F n P ops Q (o :: rest) a w := by
  subst hb
  exact wpListIn_valR hF hw (by unfold Oper.plainB; rw [ho]) (exec_neqS ho hx hy) h
theorem wpListIn_eqlS {F : Fence} {n : Nat} {P : Program} {ops : Array Oper} {rest : List Oper} {o : Oper} {a : Act} {w : World} {Q : Exit → Act → World → Prop} {t u : TypeId} {x y : Operand} {s r : List UInt8} (hF : ∀ f, F.fn f) (hw : Region.wanted o (yielded ops a.tmps) = true) (ho : o.op = .binOp .eql t x y u) (hx : a.eval x = .string ⟨s.toArray⟩) (hy : a.eval y = .string ⟨r.toArray⟩) (b : Bool) (hb : decide (s = r) = b)
    (h : wpListIn F n P ops Q rest (a.put o.dst (.bool b)) w) : wpListIn F n P ops Q (o :: rest) a w := by
  subst hb
  exact wpListIn_valR hF hw (by unfold Oper.plainB; rw [ho]) (exec_eqlS ho hx hy) h
end Go.Agg
namespace Go.Proofs.Ytnlilmiakddlaaa
open Go.RowKit Pl Go.Agg
attribute [local go_sem] Oper.semAt_some
/-- what text.must throws -/
def noneCh : List PanicEntry := [{ v := .iface 52 (.agg #[]), recovered := false }]
set_option maxRecDepth 100000 in
theorem must_yes (w : World) : Calls Try.prog 26 #[.bool true] w fun e w' => e = .returned (.tuple #[]) ∧ w' = w := by
  go_enter Try.func26, Try.ntmps26
  go_wp2_with fail
  go_end0
  exact ⟨rfl, rfl⟩
set_option maxRecDepth 100000 in
theorem must_no (w : World) : Calls Try.prog 26 #[.bool false] w fun e w' => e = .panicked noneCh ∧ w' = w := by
  go_enter Try.func26, Try.ntmps26
  go_wp2_with fail
  exact ⟨rfl, rfl, rfl⟩
/-- the box that holds what is left of a text; MaxLen -/
structure LnB (w : World) (gs : Nat) (m : Int) (s : List UInt8) : Prop where
  rest : Blk w gs 9 #[.string ⟨s.toArray⟩]
  most : w.cell? ⟨0, 0, none⟩ = some (.int .i64 m)
  ne : gs ≠ 0
def KpL (gs : Nat) (A B : World) : Prop := B.heap[gs]? = A.heap[gs]? ∧ B.heap[0]? = A.heap[0]?
def TpL (gs : Nat) (A B : World) : Prop := Below A.heap.size A B ∨ ∃ v, B = A.setCell ⟨gs, 0, none⟩ v
def encL (x : Lin) : Array Value := #[.string ⟨x.1.toArray⟩, .string ⟨x.2.toArray⟩]
def leftL (gs : Nat) (w : World) : Nat := match w.cell? ⟨gs, 0, none⟩ with | some (.string s) => s.size | _ => 0
theorem leftL_eq {w : World} {gs : Nat} {s : List UInt8} (h : Blk w gs 9 #[.string ⟨s.toArray⟩]) : leftL gs w = s.length := by
  unfold leftL
  rw [h.cell]
  simp [bytes_size]
theorem LnB.keep {w w' : World} {gs : Nat} {m : Int} {s : List UInt8} (h : LnB w gs m s) (hk : KpL gs w w') : LnB w' gs m s :=
  ⟨hk.1.trans h.rest, (World.cell?_of_block (w := w) (w' := w') (a := ⟨0, 0, none⟩) hk.2).trans h.most, h.ne⟩
theorem LnB.below {w w' : World} {gs : Nat} {m : Int} {s : List UInt8} (h : LnB w gs m s) (hb : Below w.heap.size w w') : LnB w' gs m s := h.keep ⟨hb.block _ h.rest.lt, hb.block _ (block_lt_of_cell h.most)⟩
theorem LnB.set {w : World} {gs : Nat} {m : Int} {s : List UInt8} (r : List UInt8) (h : LnB w gs m s) : LnB (w.setCell ⟨gs, 0, none⟩ (.string ⟨r.toArray⟩)) gs m r :=
  ⟨Agg.Blk.set h.rest 0 _, (World.cell?_of_block (a := ⟨0, 0, none⟩) (Below.heap_setCell _ _ _ _ (fun e => h.ne e.symm))).trans h.most, h.ne⟩
set_option maxRecDepth 100000 in
theorem lines_any (s : List UInt8) (m : Int) (w : World) (hm : w.cell? ⟨0, 0, none⟩ = some (.int .i64 m)) :
    Calls Try.prog 25 #[.string ⟨s.toArray⟩] w fun e w' => ∃ gs, e = .returned (.func (.func 32) #[] #[.pointer (some ⟨gs, 0, none⟩)]) ∧ LnB w' gs m s ∧ w.heap.size ≤ gs ∧ Below w.heap.size w w' := by
  go_enter Try.func25, Try.ntmps25
  go_wp2_with fail
  go_ret
  have hx : Below w.heap.size w (w.alloc (Obj.cells #[Value.string ⟨s.toArray⟩] 9)) := (Below.refl _ _).alloc (Nat.le_refl _) _
  have hlt : 0 < w.heap.size := block_lt_of_cell hm
  exact ⟨w.heap.size, rfl, ⟨Blk.new w 9 #[.string ⟨s.toArray⟩], (hx.cell hlt).trans hm, by omega⟩, Nat.le_refl _, hx⟩
set_option maxRecDepth 100000 in
set_option maxHeartbeats 8000000 in
theorem lines_seq (gs : Nat) (m : Int) (s : List UInt8) (hs : s.length ≤ 1048576) (w : World) (hw : LnB w gs m s) :
    SeqP Try.prog 32 #[.pointer (some ⟨gs, 0, none⟩)] encL (KpL gs) (TpL gs) (fun xs => lns s = (xs, true)) (fun pre => lns s = (pre, false)) (fun ch => ch = noneCh) (fun pre x => ∃ ys b, lns s = (pre ++ x :: ys, b)) w := by
  intro lp J Jp W hbW hJT hY h0
  have HW := Lib.hid (show LnB W gs m s from ⟨hw.rest.below hbW, (hbW.cell (block_lt_of_cell hw.most)).trans hw.most, hw.ne⟩)
  have HJT := Lib.hid hJT
  have HY := Lib.hid hY
  have H0 := Lib.hid h0
  clear hw hJT hY h0
  refine callsIn_of_wp Try.func32 rfl trivial ?_ rfl
  simp only [Try.ntmps32, List.size_toArray, List.length_cons, List.length_nil, Nat.reduceAdd, Nat.reduceSub, Array.replicate_succ, Array.replicate_zero, List.push_toArray, List.append_toArray, List.nil_append, List.cons_append]
  gi_wp2_with fail
  gi_loopw [] (fun wr => ∃ (pre : List Lin) (rest : List UInt8), lns s = (pre ++ (lns rest).1, (lns rest).2) ∧ rest.length ≤ 1048576 ∧ LnB wr gs m rest ∧ J pre wr) (fun wr => leftL gs wr)
  case atStart => exact ⟨[], s, by simp, hs, HW.out, H0.out⟩
  case round =>
    obtain ⟨pre, rest, hsp, hrl, hb, hJ⟩ := hrel
    have HSP := Lib.hid hsp
    have HB := Lib.hid hb
    have HJ := Lib.hid hJ
    have HL := Lib.hid (show LoadsL Try.prog wr 9 (some ⟨gs, 0, none⟩) (.string ⟨rest.toArray⟩) from hb.rest.one (P := Try.prog) 0 rfl Try.underlying9 rfl)
    have HLW := Lib.hid (leftL_eq hb.rest)
    clear hsp hb hJ H0
    by_cases hr0 : rest = []
    · have HN := Lib.hid (show (!decide (rest = [])) = false by simp [hr0])
      have HE := Lib.hid hr0
      clear hr0
      gi_wp2_with (first | (with_reducible refine wpListIn_loadL HL.out wide_all rfl _ rfl rfl ?_) | (refine wpListIn_neqS (s := rest) (r := []) wide_all rfl rfl rfl rfl false HN.out ?_))
      have hz : lns s = (pre, true) := by rw [HSP.out, HE.out, lns_nil]; simp
      refine bodyPost_end (results_none rfl _ _ _) rfl ?_
      exact .inl ⟨⟨_, rfl⟩, pre, hz, HJ.out⟩
    · have HN := Lib.hid (show (!decide (rest = [])) = true by simp [hr0])
      have HR0 := Lib.hid hr0
      obtain ⟨ln, hln⟩ : ∃ l, (cut1 10 rest).1 = l := ⟨_, rfl⟩
      obtain ⟨lf, hlf⟩ : ∃ l, (cut1 10 rest).2.1 = l := ⟨_, rfl⟩
      obtain ⟨i1, hi1⟩ : ∃ b, (cut1 10 rest).2.2 = b := ⟨_, rfl⟩
      have HC := Lib.hid (show Calls Try.prog 33 #[.string ⟨rest.toArray⟩, .string ⟨#[10]⟩] wr fun e w' => e = .returned (.tuple #[.string ⟨ln.toArray⟩, .string ⟨lf.toArray⟩, .bool i1]) ∧ Below wr.heap.size wr w' by
        have := cut_any rest 10 (by omega) m wr HB.out.most
        rwa [hln, hlf, hi1] at this)
      have HK := Lib.hid (And.intro hln (And.intro hlf hi1))
      clear hln hlf hi1 hr0
      gi_wp2_with (first | (with_reducible refine wpListIn_loadL HL.out wide_all rfl _ rfl rfl ?_) | (refine wpListIn_neqS (s := rest) (r := []) wide_all rfl rfl rfl rfl true HN.out ?_))
      refine ⟨trivial, CallsIn.mono (callsIn_wide.2 HC.out) ?_⟩
      rintro e w1 ⟨rfl, hx⟩
      have HB1 := Lib.hid (HB.out.below hx)
      have HJ1 := Lib.hid (HJT.out _ _ _ HJ.out (.inl hx))
      clear hx HB HJ HC HL
      cases i1 with
      | false =>
        have HZ := Lib.hid (show lns s = (pre, false) by rw [HSP.out, lns_open HR0.out HK.out.2.2]; simp)
        gi_wp2_with fail
        refine ⟨trivial, CallsIn.mono (callsIn_wide.2 (must_no w1)) ?_⟩
        rintro e w2 ⟨rfl, rfl⟩
        gi_wp2_with fail
        exact ⟨rfl, .inr ⟨_, rfl, .inr ⟨rfl, pre, HZ.out, HJ1.out⟩⟩⟩
      | true =>
        gi_wp2_with fail
        refine ⟨trivial, CallsIn.mono (callsIn_wide.2 (must_yes w1)) ?_⟩
        rintro e w2 ⟨rfl, rfl⟩
        have hlf2 : lf.length < rest.length := by have := cut1_less 10 rest HK.out.2.2; rwa [HK.out.2.1] at this
        obtain ⟨wd, hwd⟩ : ∃ l, (cut1 32 ln).1 = l := ⟨_, rfl⟩
        obtain ⟨re, hre⟩ : ∃ l, (cut1 32 ln).2.1 = l := ⟨_, rfl⟩
        obtain ⟨i2, hi2⟩ : ∃ b, (cut1 32 ln).2.2 = b := ⟨_, rfl⟩
        have hln1 : ln.length ≤ 1048576 := by
          have h1 := (cut1_yes 10 rest HK.out.2.2).1
          rw [HK.out.1, HK.out.2.1] at h1
          have := congrArg List.length h1
          simp at this; omega
        have HC := Lib.hid (show Calls Try.prog 33 #[.string ⟨ln.toArray⟩, .string ⟨#[32]⟩] w2 fun e w' => e = .returned (.tuple #[.string ⟨wd.toArray⟩, .string ⟨re.toArray⟩, .bool i2]) ∧ Below w2.heap.size w2 w' by
          have := cut_any ln 32 (by omega) m w2 HB1.out.most
          rwa [hwd, hre, hi2] at this)
        have HK2 := Lib.hid (And.intro hwd (And.intro hre hi2))
        clear hwd hre hi2
        gi_wp2_with fail
        refine ⟨trivial, CallsIn.mono (callsIn_wide.2 HC.out) ?_⟩
        rintro e w3 ⟨rfl, hx⟩
        have HB3 := Lib.hid (HB1.out.below hx)
        have HJ3 := Lib.hid (HJT.out _ _ _ HJ1.out (.inl hx))
        clear hx HB1 HJ1 HC
        cases i2 with
        | false =>
          have HZ := Lib.hid (show lns s = (pre, false) by rw [HSP.out, lns_word HR0.out HK.out.2.2 (by rw [HK.out.1]; exact HK2.out.2.2)]; simp)
          gi_wp2_with fail
          refine ⟨trivial, CallsIn.mono (callsIn_wide.2 (must_no w3)) ?_⟩
          rintro e w4 ⟨rfl, rfl⟩
          gi_wp2_with fail
          exact ⟨rfl, .inr ⟨_, rfl, .inr ⟨rfl, pre, HZ.out, HJ3.out⟩⟩⟩
        | true =>
          have HZ := Lib.hid (show lns s = (pre ++ [(wd, re)] ++ (lns lf).1, (lns lf).2) by
            rw [HSP.out, lns_line HR0.out HK.out.2.2 (by rw [HK.out.1]; exact HK2.out.2.2), HK.out.1, HK.out.2.1, HK2.out.1, HK2.out.2.1]; simp)
          gi_wp2_with fail
          refine ⟨trivial, CallsIn.mono (callsIn_wide.2 (must_yes w3)) ?_⟩
          rintro e w4 ⟨rfl, rfl⟩
          have HST := Lib.hid (Agg.Blk.run_put (P := Try.prog) (ty := 9) HB3.out.rest 0 (by simp) (.string ⟨lf.toArray⟩) rfl rfl (by kernel_rfl))
          have HB4 := Lib.hid (HB3.out.set lf)
          have HJ4 := Lib.hid (HJT.out _ _ _ HJ3.out (.inr ⟨.string ⟨lf.toArray⟩, rfl⟩))
          obtain ⟨w5, hw5⟩ : ∃ X, X = w4.setCell ⟨gs, 0, none⟩ (.string ⟨lf.toArray⟩) := ⟨_, rfl⟩
          rw [← hw5] at HST HB4 HJ4
          obtain ⟨fn, tmps, assign, body, hy, hR⟩ := HY.out pre (wd, re) w5 HJ4.out ⟨(lns lf).1, (lns lf).2, by rw [HZ.out]; simp⟩
          dsimp only [encL] at hy
          have HR := Lib.hid hR
          clear hR HB3 HJ3 hw5
          gi_wp2_with (first | (refine wpListIn_store wide_all rfl rfl 9 _ _ rfl _ _ rfl rfl HST.out ?_))
          refine HR.out.mono ?_
          rintro e W3 (⟨rfl, hJ3, hk3⟩ | ⟨ch, rfl, hJx3⟩)
          · have HB5 := Lib.hid (HB4.out.keep hk3)
            have HJ5 := Lib.hid hJ3
            clear hJ3 hk3
            gi_wp2_with fail
            go_roundw
            case rel => exact ⟨pre ++ [(wd, re)], lf, HZ.out, by omega, HB5.out, HJ5.out⟩
            case measure =>
              rw [leftL_eq HB5.out.rest, HLW.out]
              exact hlf2
          · have HJ5 := Lib.hid hJx3
            clear hJx3
            gi_wp2_with fail
            exact ⟨rfl, .inr ⟨ch, rfl, .inl HJ5.out⟩⟩
end Go.Proofs.Ytnlilmiakddlaaa
