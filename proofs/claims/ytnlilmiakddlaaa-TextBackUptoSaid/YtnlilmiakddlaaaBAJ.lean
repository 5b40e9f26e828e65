/- text.kinds: what lines say, by their first word. -/
import Derived.Test.YtnlilmiakddlaaaBAH
import Derived.Test.YtnlilmiakddlaaaBAI
namespace Go.Mp
open Go.RowKit Go.Instr
section
variable {P : Program} {α β : Type} [DecidableEq α]
variable {ops : Array Oper} {rest : List Oper} {o : Oper} {a : Act} {w : World} {Q : Exit → Act → World → Prop}
/-- an entry of a map literal -/
theorem wpList_insertS (hg : o.guard = none) (hd : o.dst = none) (mo xo vo : Operand) (t K E : TypeId) (hop : o.op = Op.insert t mo xo vo) (ht : P.underlying t = some (.map K E)) {κ : α → Value} {ν : β → Value}
    (hK : KeyEq P K κ) {b : Nat} {m : List (α × β)} (hm : a.eval mo = .map (some b)) (h : MapIs w b κ ν m) (x : α) (hx : a.eval xo = κ x) (v : β) (hv : a.eval vo = ν v)
    (hk : ∀ w', MapIs w' b κ ν (mput m x v) → ButMap b w w' → wpList P ops Q rest a w') : wpList P ops Q (o :: rest) a w := by
  refine wpList_plain hg fun K' hK' => ?_
  obtain ⟨w', hr, h1, h2⟩ := run_mapUpdate ht hK h x v
  unfold Oper.wp
  simp [execOp, hop, hm, hx, hv, hr, Result.andThen]
  rw [Oper.upon_skip, hd]
  exact hK' _ _ (hk w' h1 h2)
/-- keys that are texts -/
theorem str_key {K : TypeId} (h : P.underlying K = some .string) : KeyEq P K (fun s : List UInt8 => .string ⟨s.toArray⟩) where
  check := fun empty a w => by
    unfold checkKey
    rw [Sem.run_bind, run_underlying h w]
    simp [Result.andThen]
  desc := ⟨_, h, .inl fun a b => by
    have e : (decide (a = b)) = (a == b) := by by_cases h : a = b <;> simp [h]
    rw [e]
    simp only [sameNow]
    have e2 : ((⟨a.toArray⟩ : ByteArray) == ⟨b.toArray⟩) = (a == b) := by
      show (a.toArray == b.toArray) = _
      simp
    rw [e2]⟩
  bits := fun a => by
    simp only [sameBits]
    show (a.toArray == a.toArray) = true
    simp
end
end Go.Mp
namespace Go.Proofs.Ytnlilmiakddlaaa
open Go.RowKit Pl Go.Agg Go.Mp
def kS (s : List UInt8) : Value := .string ⟨s.toArray⟩
def fV (f : Nat) : Value := .func (.func f) #[] #[]
theorem kS_key : KeyEq Try.prog 9 kS := str_key Try.underlying9
theorem tkinds_under : Try.prog.underlying 78 = some (.map 9 76) := by kernel_rfl
def tkM : List (List UInt8 × Nat) := mput (mput (mput [] [115, 114, 99] 34) [99, 108, 97, 115, 115] 35) [114, 117, 110] 36
theorem tkM_get (k : List UInt8) : mget tkM k = if k = [114, 117, 110] then some 36 else if k = [99, 108, 97, 115, 115] then some 35 else if k = [115, 114, 99] then some 34 else none := by
  unfold tkM
  simp only [mget_mput]
  rfl
set_option maxRecDepth 100000 in
theorem tkinds_any (w : World) : Calls Try.prog 27 #[] w fun e w' => ∃ g, e = .returned (.map (some g)) ∧ MapIs w' g kS fV tkM ∧ Below w.heap.size w w' := by
  go_enter Try.func27, Try.ntmps27
  go_wp2_with (first | (refine wpList_makeMap kS fV rfl 78 rfl ?_; intro gm w1 hm hx hg; have HM1 := Lib.hid hm; have HX1 := Lib.hid hx; have HG := Lib.hid hg; clear hm hx hg) | (refine wpList_insertS rfl rfl _ _ _ 78 9 76 rfl tkinds_under kS_key rfl HM1.out [115, 114, 99] rfl 34 rfl ?_; intro w2 hm hb; have HM2 := Lib.hid hm; have HX2 := Lib.hid (hb.below HX1.out HG.out); clear hm hb) | (refine wpList_insertS rfl rfl _ _ _ 78 9 76 rfl tkinds_under kS_key rfl HM2.out [99, 108, 97, 115, 115] rfl 35 rfl ?_; intro w3 hm hb; have HM3 := Lib.hid hm; have HX3 := Lib.hid (hb.below HX2.out HG.out); clear hm hb) | (refine wpList_insertS rfl rfl _ _ _ 78 9 76 rfl tkinds_under kS_key rfl HM3.out [114, 117, 110] rfl 36 rfl ?_; intro w4 hm hb; have HM4 := Lib.hid hm; have HX4 := Lib.hid (hb.below HX3.out HG.out); clear hm hb))
  go_ret
  exact ⟨gm, rfl, HM4.out, HX4.out⟩
end Go.Proofs.Ytnlilmiakddlaaa
