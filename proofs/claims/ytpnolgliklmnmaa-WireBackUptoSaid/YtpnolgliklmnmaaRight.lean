/- wire.Right of any request. -/
import Derived.Test.YtpnolgliklmnmaaReq2
namespace Go.Proofs.Ytpnolgliklmnmaa
open Go.RowKit Pl Go.Agg
/-- a request's cells -/
def rqH (k u wh : Int) (nm : List UInt8) (vb : Value) : Array Value := #[.int .i64 k, .int .i64 u, .int .i64 wh, .string ⟨nm.toArray⟩, vb]
def rqG (k u wh : Int) (nm : List UInt8) (vb : Value) (ph pn ch : List UInt8) : Array Value := rqH k u wh nm vb ++ (pC ph pn ++ hC ch)
section
variable {k u wh : Int} {nm : List UInt8} {vb : Value} {ph pn ch : List UInt8}
theorem rqG_bytes (k u wh : Int) (nm : List UInt8) (vb : Value) (ph pn ch : List UInt8) : (rqG k u wh nm vb ph pn ch)[4]? = some vb := by
  unfold rqG
  rw [Array.getElem?_append_left (by simp [rqH])]
  rfl
theorem rqG_path (_hl : ph.length = 20) (j : Nat) (v : Value) (h : (pC ph pn)[j]? = some v) : (rqG k u wh nm vb ph pn ch)[5 + j]? = some v := by
  have hj := (Array.getElem?_eq_some_iff.1 h).1
  unfold rqG
  rw [Array.getElem?_append_right (by simp [rqH]), show 5 + j - (rqH k u wh nm vb).size = j by simp [rqH], Array.getElem?_append_left hj]
  exact h
theorem rqG_class (hl : ph.length = 20) (j : Nat) (v : Value) (h : (hC ch)[j]? = some v) : (rqG k u wh nm vb ph pn ch)[26 + j]? = some v := by
  have hs : (pC ph pn).size = 21 := by rw [pC_size, hl]
  unfold rqG
  rw [Array.getElem?_append_right (by simp [rqH]; omega), show 26 + j - (rqH k u wh nm vb).size = 21 + j by simp [rqH]; omega, Array.getElem?_append_right (by rw [hs]; omega), show 21 + j - (pC ph pn).size = j by rw [hs]; omega]
  exact h
theorem rqG_size (hl : ph.length = 20) (hc : ch.length = 20) : (rqG k u wh nm vb ph pn ch).size = 46 := by simp [rqG, rqH, pC_size, hC_size, hl, hc]
structure RqG (w : World) (g : Nat) (k u wh : Int) (nm : List UInt8) (vb : Value) (ph pn ch : List UInt8) : Prop where
  all : LoadsL Try.prog w 46 (some ⟨g, 0, none⟩) (.agg (rqG k u wh nm vb ph pn ch))
  kind : LoadsL Try.prog w 40 (some ⟨g, 0, none⟩) (.int .i64 k)
  user : LoadsL Try.prog w 3 (some ⟨g, 1, none⟩) (.int .i64 u)
  who : LoadsL Try.prog w 3 (some ⟨g, 2, none⟩) (.int .i64 wh)
  name : LoadsL Try.prog w 9 (some ⟨g, 3, none⟩) (.string ⟨nm.toArray⟩)
  bytes : LoadsL Try.prog w 23 (some ⟨g, 4, none⟩) vb
  path : LoadsL Try.prog w 44 (some ⟨g, 5, none⟩) (.agg (pC ph pn))
  cls : LoadsL Try.prog w 42 (some ⟨g, 26, none⟩) (.agg (hC ch))
theorem RqG.of_blk {w : World} {g : Nat} (h : Blk w g 46 (rqG k u wh nm vb ph pn ch)) (hl : ph.length = 20) (hc : ch.length = 20) : RqG w g k u wh nm vb ph pn ch where
  all := h.loads (by kernel_rfl : Try.prog.underlying 46 = some (.struct (Try.prog.fieldsOf 46))) rfl (by rw [rqG_size hl hc]; kernel_rfl)
  kind := h.one 0 (by unfold rqG; rw [Array.getElem?_append_left (by simp [rqH])]; rfl) Try.underlying40 rfl
  user := h.one 1 (by unfold rqG; rw [Array.getElem?_append_left (by simp [rqH])]; rfl) Try.underlying3 rfl
  who := h.one 2 (by unfold rqG; rw [Array.getElem?_append_left (by simp [rqH])]; rfl) Try.underlying3 rfl
  name := h.one 3 (by unfold rqG; rw [Array.getElem?_append_left (by simp [rqH])]; rfl) Try.underlying9 rfl
  bytes := h.one 4 (rqG_bytes k u wh nm vb ph pn ch) (by kernel_rfl : Try.prog.underlying 23 = some (.slice 5)) rfl
  path := h.sub 5 (pC ph pn) (rqG_path hl) pC_under rfl (pC_info ph pn hl)
  cls := h.sub 26 (hC ch) (rqG_class hl) Try.underlying42 rfl (hC_info ch hc)
theorem RqG.below {w w' : World} {g : Nat} (h : RqG w g k u wh nm vb ph pn ch) (hb : Below w.heap.size w w') : RqG w' g k u wh nm vb ph pn ch := ⟨h.all.below hb, h.kind.below hb, h.user.below hb, h.who.below hb, h.name.below hb, h.bytes.below hb, h.path.below hb, h.cls.below hb⟩
end
/-- a request's test, in parts -/
def rT (k u wh : Int) (nm ph pn ch : List UInt8) : List Bool :=
  [!(decide (1 ≤ k) && decide (k ≤ 10)), !(decide (1 ≤ u) && decide (u ≤ 8)), hasN (partsN k) 1 != (decide (1 ≤ wh) && decide (wh ≤ 16)), !hasN (partsN k) 1 && (wh != 0), hasN (partsN k) 2 != isName nm, !hasN (partsN k) 2 && (nm != []),
    !hasN (partsN k) 12 && !(ph == z20 && pn == []), hasN (partsN k) 12 && !namedN ph pn (hasN (partsN k) 8), !hasN (partsN k) 16 && !(ch == z20)]
def rightN (k u wh : Int) (nm : List UInt8) (lb : Nat) (ph pn ch : List UInt8) : Bool := (rT k u wh nm ph pn ch).all (fun b => !b) && decide (lb ≤ mostN k)
theorem rightN_bad {k u wh : Int} {nm : List UInt8} {lb : Nat} {ph pn ch : List UInt8} {b : Bool} (h : b ∈ rT k u wh nm ph pn ch) (hb : b = true) : rightN k u wh nm lb ph pn ch = false := by
  subst hb
  unfold rightN
  rw [Bool.and_eq_false_iff]
  left
  rw [List.all_eq_false]
  exact ⟨true, h, by simp⟩
theorem neq_path (h n h' n' : List UInt8) (hl : h.length = 20) (hl' : h'.length = 20) (w : World) : (binOp .neq 44 (.agg (pC h n)) (.agg (pC h' n'))).run Try.prog w = .ok (.bool (!(h == h' && n == n'))) w := by
  rw [run_neq_struct, run_equalIn_struct w 9999 44 _ _ pC_under (by kernel_rfl)]
  have hf := path_fields
  generalize (Try.prog.fieldsOf 44).toList = fs at hf ⊢
  cases fs with
  | nil => exact absurd hf (by simp)
  | cons f1 fs =>
  cases fs with
  | nil => exact absurd hf (by simp)
  | cons f2 fs =>
  cases fs with
  | cons f3 fs => exact absurd hf (by simp)
  | nil =>
    simp only [List.map_cons, List.map_nil, List.cons.injEq, Prod.mk.injEq, and_true] at hf
    obtain ⟨⟨a1, a2, a3⟩, b1, b2, b3⟩ := hf
    simp only [Op.eqFields, a1, a2, a3, b1, b2, b3, Sem.run_bind, Sem.run_ite, part_hash _ _ hl, part_hash _ _ hl', part_name _ _ hl, part_name _ _ hl', Result.andThen_ok, eqlIn_hash 9997 _ _ hl hl', run_equalIn_string w 9998 9 _ _ Try.underlying9, Agg.bytes_toList]
    cases h == h' <;> cases n == n' <;> simp
theorem neq_hash (h h' : List UInt8) (hl : h.length = 20) (hl' : h'.length = 20) (w : World) : (binOp .neq 42 (.agg (hC h)) (.agg (hC h'))).run Try.prog w = .ok (.bool (!(h == h'))) w := by
  rw [run_neq_struct, eqlIn_hash 9998 _ _ hl hl']; rfl
theorem hasB {P c : Nat} {b : Bool} (hP : P < 256) (hc : c < 256) (h : hasN P c = b) (w : World) : Calls Try.prog 47 #[.int .u8 (P : Int), .int .u8 (c : Int)] w fun e w' => e = .returned (.bool b) ∧ w' = w := by
  have := has_any P c hP hc w
  rwa [h] at this
theorem withinB {n lo hi : Int} {b : Bool} (h : (decide (lo ≤ n) && decide (n ≤ hi)) = b) (w : World) : Calls Try.prog 50 #[.int .i64 n, .int .i64 lo, .int .i64 hi] w fun e w' => e = .returned (.bool b) ∧ w' = w := by
  have := within_go n lo hi w
  rwa [h] at this
end Go.Proofs.Ytpnolgliklmnmaa
