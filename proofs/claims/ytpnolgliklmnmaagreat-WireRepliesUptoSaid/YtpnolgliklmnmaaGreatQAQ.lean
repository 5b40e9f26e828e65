/- wire.PutReply: what it needs. (Several texts in one.) -/
import Derived.Test.YtpnolgliklmnmaaGreatQAK
import Derived.Test.YtpnolgliklmnmaaGreatQAN
import Derived.Test.YtpnolgliklmnmaaGreatQAC
import Derived.Test.YtpnolgliklmnmaaGreatQAO
import Derived.Test.YtpnolgliklmnmaaGreatQAP
import Derived.Test.YtpnolgliklmnmaaGreatQAL
import Derived.Test.YtpnolgliklmnmaaGreatQAG
/-! spenceref28: has, in, text. -/
namespace Go.Proofs.YtpnolgliklmnmaaGreat
open Go.RowKit Pl Go.Agg
/-- what the document says of kinds, by their parts -/
def wordP (P : Nat) : List UInt8 :=
  if P = 34 then [110, 98] else if P = 32 then [98] else if P = 16 then [99] else if P = 1 then [119] else if P = 6 then [110, 112] else if P = 2 then [110] else if P = 36 then [112, 98] else if P = 8 then [122] else []
theorem word_cases (k : Int) : wordP (partsN k) = if k = 1 then [110, 98] else if k = 2 then [98] else if k = 3 then [99] else if k = 4 then [119] else if k = 5 then [110, 112] else if k = 6 then [110] else if k = 9 then [112, 98] else if k = 10 then [122] else [] := by
  unfold partsN
  repeat' split
  all_goals rfl
set_option maxRecDepth 100000 in
theorem refHas_any (k : Int) (w : World) : Calls Tryz.prog 44 #[.int .i64 k] w fun e w' => e = .returned (.string ⟨(wordP (partsN k)).toArray⟩) ∧ w' = w := by
  rw [word_cases]
  by_cases h1 : k = 1
  · subst h1
    go_enter Tryz.func44, Tryz.ntmps44
    go_wp2_with fail
    go_ret
    exact ⟨rfl, rfl⟩
  have q1 : (k == 1) = false := by simpa using h1
  rw [if_neg h1]
  by_cases h2 : k = 2
  · subst h2
    go_enter Tryz.func44, Tryz.ntmps44
    go_wp2_with fail
    go_ret
    exact ⟨rfl, rfl⟩
  have q2 : (k == 2) = false := by simpa using h2
  rw [if_neg h2]
  by_cases h3 : k = 3
  · subst h3
    go_enter Tryz.func44, Tryz.ntmps44
    go_wp2_with fail
    go_ret
    exact ⟨rfl, rfl⟩
  have q3 : (k == 3) = false := by simpa using h3
  rw [if_neg h3]
  by_cases h4 : k = 4
  · subst h4
    go_enter Tryz.func44, Tryz.ntmps44
    go_wp2_with fail
    go_ret
    exact ⟨rfl, rfl⟩
  have q4 : (k == 4) = false := by simpa using h4
  rw [if_neg h4]
  by_cases h5 : k = 5
  · subst h5
    go_enter Tryz.func44, Tryz.ntmps44
    go_wp2_with fail
    go_ret
    exact ⟨rfl, rfl⟩
  have q5 : (k == 5) = false := by simpa using h5
  rw [if_neg h5]
  by_cases h6 : k = 6
  · subst h6
    go_enter Tryz.func44, Tryz.ntmps44
    go_wp2_with fail
    go_ret
    exact ⟨rfl, rfl⟩
  have q6 : (k == 6) = false := by simpa using h6
  rw [if_neg h6]
  by_cases h7 : k = 9
  · subst h7
    go_enter Tryz.func44, Tryz.ntmps44
    go_wp2_with fail
    go_ret
    exact ⟨rfl, rfl⟩
  have q7 : (k == 9) = false := by simpa using h7
  rw [if_neg h7]
  by_cases h8 : k = 10
  · subst h8
    go_enter Tryz.func44, Tryz.ntmps44
    go_wp2_with fail
    go_ret
    exact ⟨rfl, rfl⟩
  have q8 : (k == 10) = false := by simpa using h8
  rw [if_neg h8]
  clear h1 h2 h3 h4 h5 h6 h7 h8
  go_enter Tryz.func44, Tryz.ntmps44
  go_wp2_with fail
  go_ret
  exact ⟨rfl, rfl⟩
/-- is a letter one of a word? -/
def inN (s : List UInt8) (c : Nat) : Bool := s.any fun x => x.toNat == c
theorem inN_succ {s : List UInt8} {c k : Nat} {x : UInt8} (hx : s[k]? = some x) (h : inN (s.take k) c = false) (hn : (x.toNat == c) = false) : inN (s.take (k + 1)) c = false := by
  unfold inN at *
  rw [List.take_add_one, hx, List.any_append, h]
  simp [hn]
theorem inN_hit {s : List UInt8} {c k : Nat} {x : UInt8} (hx : s[k]? = some x) (hn : (x.toNat == c) = true) : inN s c = true := by
  unfold inN
  rw [List.any_eq_true]
  exact ⟨x, List.mem_of_getElem? hx, hn⟩
set_option maxRecDepth 100000 in
set_option maxHeartbeats 1000000 in
theorem refIn_any (s : List UInt8) (c : Nat) (hs : s.length ≤ 1048576) (_hc : c < 256) (w : World) : Calls Tryz.prog 46 #[.string ⟨s.toArray⟩, .int .u8 (c : Int)] w fun e w' => e = .returned (.bool (inN s c)) ∧ w' = w := by
  have hls := str_len' s
  go_enter Tryz.func46, Tryz.ntmps46
  go_wp2_with fail
  go_loopw [5] (fun i wr => ∃ k : Nat, k ≤ s.length ∧ i = .int .i64 k ∧ inN (s.take k) c = false ∧ wr = w) (fun i _ => s.length - (intOf i).toNat)
  case atStart => exact ⟨0, by omega, rfl, rfl, rfl⟩
  case round =>
    obtain ⟨k, hk, rfl, htk, rfl⟩ := hrel
    have HTK := Lib.hid htk
    clear htk
    by_cases hlt : k < s.length
    · obtain ⟨x, hxk⟩ : ∃ x, s[k]? = some x := ⟨_, List.getElem?_eq_getElem hlt⟩
      have hix : ∀ W, (Instr.index 9 (.string ⟨s.toArray⟩) (.int .i64 (k : Int))).run Tryz.prog W = .ok (.int .u8 (x.toNat : Int)) W := fun W => run_index_str W Tryz.underlying9 hxk
      have HX := Lib.hid hxk
      clear hxk
      cases hq : (x.toNat == c) with
      | true =>
        have hqi : ((x.toNat : Int) == (c : Int)) = true := by simp only [beq_iff_eq] at hq ⊢; omega
        have HR := Lib.hid (inN_hit HX.out hq)
        clear hq
        go_wp2_with fail
        go_ret
        exact ⟨by rw [HR.out]; rfl, rfl⟩
      | false =>
        have hqi : ((x.toNat : Int) == (c : Int)) = false := by rw [beq_eq_false_iff_ne] at hq ⊢; omega
        have HR := Lib.hid (inN_succ HX.out HTK.out hq)
        clear hq
        go_wp2_with fail
        go_roundw
        case rel => exact ⟨k + 1, by omega, by go_num, HR.out, by first | rfl | trivial⟩
        case measure => simp [intOf]; omega
    · obtain rfl : k = s.length := by omega
      rw [List.take_length] at HTK
      go_wp2_with fail
      go_ret
      exact ⟨by rw [HTK.out]; rfl, rfl⟩
end Go.Proofs.YtpnolgliklmnmaaGreat
/-! spenceref28.Right: what it says, in letters. -/
namespace Go.Proofs.YtpnolgliklmnmaaGreat
open Go.RowKit Pl Go.Agg
def refL (P : Nat) (k1 k2 u1 u2 w1 w2 w0 a5 a6 a7 a8 a9 l0 lm : Bool) : Bool :=
  k1 && (k2 && (u1 && (u2 && ((if hasN P 4 then a8 else if hasN P 8 then (a7 || a8) else a7) && ((if hasN P 2 then a5 else a6) && ((if hasN P 1 then (w1 && w2) else w0) && ((l0 || (hasN P 32 && lm)) && (hasN P 16 || a9))))))))
def refB (P : Nat) (k u wh : Int) (nm : List UInt8) (n : Nat) (ph pn ch : List UInt8) : Bool :=
  refL P (decide (1 ≤ k)) (decide (k ≤ 10)) (decide (1 ≤ u)) (decide (u ≤ 8)) (decide (1 ≤ wh)) (decide (wh ≤ 16)) (wh == 0) (isName nm) (nm == []) (ph == z20 && pn == []) (isName pn) (ch == z20) ((n : Int) == 0) (decide ((n : Int) ≤ if P = 32 then 2000 else 4096))
theorem RqG.pname2 {w : World} {g : Nat} {k u wh : Int} {nm : List UInt8} {vb : Value} {ph pn ch : List UInt8} (h : Blk w g 29 (rqG k u wh nm vb ph pn ch)) (hl : ph.length = 20) : LoadsL Tryz.prog w 9 (some ⟨g, 25, none⟩) (.string ⟨pn.toArray⟩) :=
  h.one 25 (rqG_path hl 20 _ (pC_name ph pn hl)) Tryz.underlying9 rfl
theorem build_h0 (W : World) : (Instr.build 25 #[]).run Tryz.prog W = .ok (.agg (hC z20)) W := by kernel_rfl
theorem kind_two {k : Int} {P : Nat} (h : partsN k = P) (hq : k = 2) : P = 32 := by subst hq; rw [← h]; rfl
theorem kind_32 {k : Int} (h : partsN k = 32) : k = 2 := by
  unfold partsN at h
  repeat' split at h
  all_goals first | assumption | omega
theorem refIn_is {s : List UInt8} {c : Nat} {b : Bool} (h : inN s c = b) (hs : s.length ≤ 8) (hc : c < 256) (w : World) : Calls Tryz.prog 46 #[.string ⟨s.toArray⟩, .int .u8 (c : Int)] w fun e w' => e = .returned (.bool b) ∧ w' = w := by
  have := refIn_any s c (by omega) hc w
  rwa [h] at this
end Go.Proofs.YtpnolgliklmnmaaGreat
/-! spenceref28.RightReply: what wire.RightReply says. -/
namespace Go.Proofs.YtpnolgliklmnmaaGreat
open Go.RowKit Pl Go.Agg
theorem RpG.pname2 {w : World} {b : Nat} {e g m : Int} {pv : Value} {ph pn ch : List UInt8} (h : Blk w b 46 (rpG e ph pn ch g pv m)) (hl : ph.length = 20) : LoadsL Tryz.prog w 9 (some ⟨b, 21, none⟩) (.string ⟨pn.toArray⟩) :=
  h.one 21 (rpG_path 20 _ (pC_name ph pn hl)) Tryz.underlying9 rfl
theorem named_letters (ph pn : List UInt8) : namedN ph pn true = ((ph == z20 && pn == []) || isName pn) := by
  unfold namedN
  cases (ph == z20 && pn == []) <;> simp
set_option maxRecDepth 100000 in
set_option maxHeartbeats 8000000 in
theorem refRReply_any (e g m : Int) (ph pn ch : List UInt8) (pv : Value) (l : List P20) (hl : ph.length = 20) (hc : ch.length = 20) (hpn : pn.length ≤ 1048576) (hn : l.length ≤ 1048576) (hlx : ∀ x ∈ l, x.1.2.length ≤ 1048576) (w : World) (hs : ElemsAt w pv l) :
    Calls Tryz.prog 27 #[.agg (rpG e ph pn ch g pv m)] w fun x w' => x = .returned (.bool (Rp.right ⟨e, ph, pn, ch, g, l, m⟩)) ∧ Below w.heap.size w w' := by
  have HE := Lib.hid hs
  have hlv := fun W => elems_len hs W
  have HLX := Lib.hid hlx
  obtain ⟨a7, ha7⟩ : ∃ b, (ph == z20 && pn == []) = b := ⟨_, rfl⟩
  obtain ⟨a8, ha8⟩ : ∃ b, isName pn = b := ⟨_, rfl⟩
  have HNP := Lib.hid (fun W => (show Calls Tryz.prog 67 #[.string ⟨pn.toArray⟩] W fun e w' => e = .returned (.bool a8) ∧ W = w' by have := refName_any pn (by omega) W; rwa [ha8] at this))
  have HEP := Lib.hid (fun W => (show (binOp .eql 27 (.agg (pC ph pn)) (.agg (pC z20 []))).run Tryz.prog W = .ok (.bool a7) W by rw [← ha7]; exact eql_path ph pn z20 [] hl rfl W))
  have HR := Lib.hid (show ∀ a9, pathsName l = a9 → Rp.right ⟨e, ph, pn, ch, g, l, m⟩ = ((decide (0 ≤ e) && decide (e ≤ 63)) && ((decide (0 ≤ g) && decide (g ≤ 1099511627776)) && ((decide (0 ≤ m) && decide (m ≤ 1099511627776)) && ((a7 || a8) && (decide ((l.length : Int) ≤ 2000) && a9))))) from fun a9 h9 => by
    have h20 : decide ((l.length : Int) ≤ 2000) = decide (l.length ≤ 2000) := by simp only [decide_eq_decide]; omega
    rw [h20, ← ha7, ← ha8, ← h9, ← named_letters]
    rfl)
  clear hs hlx ha7 ha8
  go_enter Tryz.func27, Tryz.ntmps27
  go_wp2_with (first | (with_reducible refine Agg.wpList_box rfl 46 _ rfl (rpG e ph pn ch g pv m) rfl ?_; intro b w1 hb1 hx1 hg; have HL := Lib.hid (RpG.of_blk hb1 hl hc); have HB := Lib.hid hb1; have HX := Lib.hid hx1; clear hb1 hx1 hg))
  go_loopw [3] (fun i wr => ∃ k : Nat, k ≤ l.length ∧ i = .int .i64 k ∧ pathsName (l.take k) = true ∧ Below w1.heap.size w1 wr) (fun i _ => l.length - (intOf i).toNat)
  case atStart => exact ⟨0, by omega, rfl, by simp [pathsName], Below.refl _ _⟩
  case round =>
    obtain ⟨w2, rfl⟩ : ∃ w2 : World, w2 = wr := ⟨_, rfl⟩
    obtain ⟨k, hk, rfl, htk, hw⟩ := hrel
    have HTK := Lib.hid htk
    have HL2 := Lib.hid (HL.out.below hw)
    have HB2 := Lib.hid (HB.out.below hw)
    have HX2 := Lib.hid (Agg.belowThen HX.out (Nat.le_refl _) hw)
    have HW2 := Lib.hid hw
    clear htk hw
    by_cases hlt : k < l.length
    · obtain ⟨x, hxk⟩ : ∃ x, l[k]? = some x := ⟨_, List.getElem?_eq_getElem hlt⟩
      obtain ⟨p, hadr, hld, hln⟩ := elem_at (HE.out.below HX2.out) k x hxk
      have hxl := HLX.out x (List.mem_of_getElem? hxk)
      have HLN := Lib.hid hln
      have HXK := Lib.hid hxk
      clear hld hln hxk
      go_wp2_with (first | (with_reducible refine Agg.wpList_loadL HL2.out.paths rfl _ rfl rfl ?_) | (with_reducible refine Agg.wpList_loadL HLN.out rfl _ rfl rfl ?_))
      refine (refName_any x.1.2 (by omega) _).mono ?_
      rintro e2 w3 ⟨rfl, rfl⟩
      cases hnm : isName x.1.2 with
      | true =>
        have HN := Lib.hid hnm
        clear hnm
        go_wp2_with fail
        go_roundw
        case rel => exact ⟨k + 1, by omega, by go_num, pathsName_succ HXK.out HTK.out HN.out, HW2.out⟩
        case measure => simp [intOf]; omega
      | false =>
        have HN := Lib.hid hnm
        clear hnm
        go_wp2_with fail
        go_ret
        exact ⟨ret_bool (by rw [HR.out _ (pathsName_false HXK.out HN.out)]; simp), HX2.out⟩
    · obtain rfl : k = l.length := by omega
      rw [List.take_length] at HTK
      have HRT := Lib.hid (HR.out _ HTK.out)
      clear hlt hk HE HLX HL HB HX HR HTK
      by_cases he0 : 0 ≤ e
      · by_cases he1 : e ≤ 63
        · cases a7
          case false =>
            go_wp2_with (first | (with_reducible refine Agg.wpList_loadL HL2.out.err rfl _ rfl rfl ?_) | (with_reducible refine Agg.wpList_loadL HL2.out.path rfl _ rfl rfl ?_) | (with_reducible refine Agg.wpList_loadL HL2.out.goal rfl _ rfl rfl ?_) | (with_reducible refine Agg.wpList_loadL HL2.out.paths rfl _ rfl rfl ?_) | (with_reducible refine Agg.wpList_loadL HL2.out.many rfl _ rfl rfl ?_) | (with_reducible refine Agg.wpList_loadL (RpG.pname2 HB2.out hl) rfl _ rfl rfl ?_) | (with_reducible refine Agg.wpList_build0 27 rfl rfl (.agg (pC z20 [])) build_p0 ?_) | (with_reducible refine Agg.wpList_eqlw 27 27 _ _ rfl rfl (pC ph pn) (pC z20 []) rfl rfl _ (by kernel_rfl) HEP.out ?_))
            refine (HNP.out _).mono ?_
            rintro e2 w4 ⟨rfl, rfl⟩
            cases a8
            all_goals go_wp2_with (first | (with_reducible refine Agg.wpList_loadL HL2.out.err rfl _ rfl rfl ?_) | (with_reducible refine Agg.wpList_loadL HL2.out.path rfl _ rfl rfl ?_) | (with_reducible refine Agg.wpList_loadL HL2.out.goal rfl _ rfl rfl ?_) | (with_reducible refine Agg.wpList_loadL HL2.out.paths rfl _ rfl rfl ?_) | (with_reducible refine Agg.wpList_loadL HL2.out.many rfl _ rfl rfl ?_) | (with_reducible refine Agg.wpList_loadL (RpG.pname2 HB2.out hl) rfl _ rfl rfl ?_) | (with_reducible refine Agg.wpList_build0 27 rfl rfl (.agg (pC z20 [])) build_p0 ?_) | (with_reducible refine Agg.wpList_eqlw 27 27 _ _ rfl rfl (pC ph pn) (pC z20 []) rfl rfl _ (by kernel_rfl) HEP.out ?_))
            all_goals (go_ret; exact ⟨ret_bool (by rw [HRT.out]; simp [*] <;> (intros; exfalso; omega)), HX2.out⟩)
          case true =>
            go_wp2_with (first | (with_reducible refine Agg.wpList_loadL HL2.out.err rfl _ rfl rfl ?_) | (with_reducible refine Agg.wpList_loadL HL2.out.path rfl _ rfl rfl ?_) | (with_reducible refine Agg.wpList_loadL HL2.out.goal rfl _ rfl rfl ?_) | (with_reducible refine Agg.wpList_loadL HL2.out.paths rfl _ rfl rfl ?_) | (with_reducible refine Agg.wpList_loadL HL2.out.many rfl _ rfl rfl ?_) | (with_reducible refine Agg.wpList_loadL (RpG.pname2 HB2.out hl) rfl _ rfl rfl ?_) | (with_reducible refine Agg.wpList_build0 27 rfl rfl (.agg (pC z20 [])) build_p0 ?_) | (with_reducible refine Agg.wpList_eqlw 27 27 _ _ rfl rfl (pC ph pn) (pC z20 []) rfl rfl _ (by kernel_rfl) HEP.out ?_))
            all_goals (go_ret; exact ⟨ret_bool (by rw [HRT.out]; simp [*] <;> (intros; exfalso; omega)), HX2.out⟩)
        · go_wp2_with (first | (with_reducible refine Agg.wpList_loadL HL2.out.err rfl _ rfl rfl ?_) | (with_reducible refine Agg.wpList_loadL HL2.out.path rfl _ rfl rfl ?_) | (with_reducible refine Agg.wpList_loadL HL2.out.goal rfl _ rfl rfl ?_) | (with_reducible refine Agg.wpList_loadL HL2.out.paths rfl _ rfl rfl ?_) | (with_reducible refine Agg.wpList_loadL HL2.out.many rfl _ rfl rfl ?_) | (with_reducible refine Agg.wpList_loadL (RpG.pname2 HB2.out hl) rfl _ rfl rfl ?_) | (with_reducible refine Agg.wpList_build0 27 rfl rfl (.agg (pC z20 [])) build_p0 ?_) | (with_reducible refine Agg.wpList_eqlw 27 27 _ _ rfl rfl (pC ph pn) (pC z20 []) rfl rfl _ (by kernel_rfl) HEP.out ?_))
          all_goals (go_ret; exact ⟨ret_bool (by rw [HRT.out]; simp [*] <;> (intros; exfalso; omega)), HX2.out⟩)
      · go_wp2_with (first | (with_reducible refine Agg.wpList_loadL HL2.out.err rfl _ rfl rfl ?_) | (with_reducible refine Agg.wpList_loadL HL2.out.path rfl _ rfl rfl ?_) | (with_reducible refine Agg.wpList_loadL HL2.out.goal rfl _ rfl rfl ?_) | (with_reducible refine Agg.wpList_loadL HL2.out.paths rfl _ rfl rfl ?_) | (with_reducible refine Agg.wpList_loadL HL2.out.many rfl _ rfl rfl ?_) | (with_reducible refine Agg.wpList_loadL (RpG.pname2 HB2.out hl) rfl _ rfl rfl ?_) | (with_reducible refine Agg.wpList_build0 27 rfl rfl (.agg (pC z20 [])) build_p0 ?_) | (with_reducible refine Agg.wpList_eqlw 27 27 _ _ rfl rfl (pC ph pn) (pC z20 []) rfl rfl _ (by kernel_rfl) HEP.out ?_))
        all_goals (go_ret; exact ⟨ret_bool (by rw [HRT.out]; simp [*] <;> (intros; exfalso; omega)), HX2.out⟩)
end Go.Proofs.YtpnolgliklmnmaaGreat
/-! wire.PutReply: what it needs. -/
namespace Go.Agg
open Go.RowKit
variable {P : Program} {ops : Array Oper} {o : Oper} {a : Act} {w : World}
theorem exec_load {ty : TypeId} {x : Operand} {p v : Value} (ho : o.op = .load ty x) (hx : a.eval x = p) (hrun : (Instr.loadAt ty p).run P w = .ok v w) : (execOp a.eval o).run P w = .ok (.value v) w := by simp [execOp, ho, hx, hrun]
theorem exec_len {st : TypeId} {x : Operand} {v r : Value} (ho : o.op = .call { callee := .builtin .len, args := #[x], argTypes := #[st] }) (hx : a.eval x = v) (hrun : (Builtin.len_ #[st] o.type #[v]).run P w = .ok r w) : (execOp a.eval o).run P w = .ok (.value r) w := by
  simp [execOp, ho, resolve, invoke, builtin, hx, hrun]
end Go.Agg
namespace Go.Proofs.YtpnolgliklmnmaaGreat
open Go.RowKit Pl Go.Agg
/-- numbers in a slice, made ahead of a maker -/
structure PreI (w : World) (x : Value) (l : List Nat) : Prop where
  slice : SliceOf EI w x l
  lt : ∀ k, x.ownBlock = some k → k < w.heap.size
theorem PreI.below {w w' : World} {x : Value} {l : List Nat} (h : PreI w x l) (hb : Below w.heap.size w w') : PreI w' x l := ⟨h.slice.below hb, fun k hk => Nat.lt_of_lt_of_le (h.lt k hk) hb.size⟩
theorem PreI.off {w w' : World} {x : Value} {l : List Nat} {g : Nat} (h : PreI w x l) (hb : Below w.heap.size w w') (hg : w.heap.size ≤ g) : Off EI g w' (.slice none 0 0) x l :=
  ⟨h.slice.below hb, .inr fun k hk => ⟨Nat.lt_of_lt_of_le (h.lt k hk) hb.size, by have := h.lt k hk; omega, by simp [Value.ownBlock]⟩⟩
theorem step_ints3 {ops : Array Oper} {o : Oper} {a : Act} {w : World} {Q : Exit → Act → World → Prop} {K : Act → World → Prop} {F : Prop} (hg : o.guard = none) (x y z : Operand) (ho : o.op = .buildSlice 60 3 #[(0, x), (1, y), (2, z)]) (p q r : Nat) (hx : a.eval x = .int .i64 (p : Int)) (hy : a.eval y = .int .i64 (q : Int)) (hz : a.eval z = .int .i64 (r : Int))
    (h : ∀ v' w', PreI w' v' [p, q, r] → (∀ k, v'.ownBlock = some k → w.heap.size ≤ k) → Below w.heap.size w w' → K (a.put o.dst v') w') : if Region.wanted o (yielded ops a.tmps) = true then o.wp Tryz.prog a w K Q else F := by
  have hb : (Instr.buildSlice 60 3 #[(0, .int .i64 (p : Int)), (1, .int .i64 (q : Int)), (2, .int .i64 (r : Int))]).run Tryz.prog w = .ok (.slice (some ⟨w.heap.size, 0, none⟩) 3 3) (w.alloc (.cells #[.int .i64 (p : Int), .int .i64 (q : Int), .int .i64 (r : Int)] 3)) := by kernel_rfl
  have hB := Blk.new w 3 #[.int .i64 (p : Int), .int .i64 (q : Int), .int .i64 (r : Int)]
  refine step_val hg (v := .slice (some ⟨w.heap.size, 0, none⟩) 3 3) (w' := w.alloc (.cells #[.int .i64 (p : Int), .int .i64 (q : Int), .int .i64 (r : Int)] 3)) (by simp [execOp, ho, hx, hy, hz, hb]) (h _ _ ⟨SliceOf.of_cells (E := EI) (l := [p, q, r]) hB (by simp [Elem.flat, Elem.cs]; rfl), fun k hk => ?_⟩ (fun k hk => ?_) ((Below.refl _ _).alloc (Nat.le_refl _) _))
  · simp only [Value.ownBlock, Option.some.injEq] at hk
    subst hk
    exact hB.lt
  · simp only [Value.ownBlock, Option.some.injEq] at hk
    omega
theorem own_pre {B : Nat} {w : World} {x : Value} {l : List Nat} (h : Own EI B w x l) : PreI w x l := ⟨h.slice, fun k hk => by
  obtain ⟨_, cur, hc⟩ := h.block k hk
  exact Agg.heap_lt hc⟩
theorem rp_class_slice {w : World} {b : Nat} {e g m : Int} {pv : Value} {ph pn ch : List UInt8} (h : Blk w b 46 (rpG e ph pn ch g pv m)) (hl : ph.length = 20) (hc : ch.length = 20) : SliceOf EB w (.slice (some ⟨b, 22, none⟩) 20 20) ch := by
  refine .inr ⟨_, 20, by rw [hc], h.lt, fun j v hj => ?_⟩
  rw [add_plain, h.cell]
  refine rpG_class hl j v ?_
  rw [flat_bytes] at hj
  simpa [hC] using hj
theorem encP_le (p : P20) : (encP p).length ≤ 63 := by
  have h := pathS_le (n := p.1.2) p.1.1
  have := encN_len (n := (pathS p.1.1 p.1.2).length) (by omega)
  unfold encP encT
  rw [List.length_append]
  omega
theorem flatP_le : ∀ l : List P20, (l.flatMap encP).length ≤ l.length * 63
  | [] => by simp
  | p :: l => by
    have := encP_le p
    have := flatP_le l
    simp only [List.flatMap_cons, List.length_append, List.length_cons]
    omega
theorem take_flatP {l : List P20} {k : Nat} {x : P20} (h : l[k]? = some x) : (l.take (k + 1)).flatMap encP = (l.take k).flatMap encP ++ encP x := by
  rw [List.take_add_one, h]
  simp
/-- what stands ahead of a reply's paths -/
def rpHead (e g m : Nat) (ph pn ch : List UInt8) (n : Nat) : List UInt8 := encN e ++ (encN g ++ encN m) ++ (encN (pathS ph pn).length ++ pathS ph pn) ++ ch ++ encN n
theorem rpHead_eq (e g m : Nat) (ph pn ch : List UInt8) (l : List P20) : rpHead e g m ph pn ch l.length ++ l.flatMap encP = putRp ⟨e, ph, pn, ch, g, l, m⟩ := by
  simp only [rpHead, putRp, encT, Int.toNat_natCast, List.append_assoc]
theorem rpHead_le {e g m n : Nat} {ph pn ch : List UInt8} (he : e ≤ 1099511627776) (hg : g ≤ 1099511627776) (hm : m ≤ 1099511627776) (hn : n ≤ 1099511627776) (hc : ch.length = 20) : (rpHead e g m ph pn ch n).length ≤ 200 := by
  have h1 := encN_len he
  have h2 := encN_len hg
  have h3 := encN_len hm
  have h4 := encN_len hn
  have h5 := pathS_le (n := pn) ph
  have h6 := encN_len (n := (pathS ph pn).length) (by omega)
  simp only [rpHead, List.length_append]
  omega
end Go.Proofs.YtpnolgliklmnmaaGreat
