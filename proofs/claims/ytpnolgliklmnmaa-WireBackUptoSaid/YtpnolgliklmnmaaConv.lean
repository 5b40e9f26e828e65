/- '[]byte(s)' and 'string(b)' -/
import Derived.Test.YtpnolgliklmnmaaBytes
import Derived.Lib.ConvBytes
import Derived.Laws.IdiomStrings
import Derived.Laws.BytesArg
namespace Go.Proofs.Ytpnolgliklmnmaa
open Go.RowKit Pl Go.Agg
theorem bytes_below (w : World) (e : TypeId) (s : ByteArray) : Below w.heap.size w (Lib.bytesWorld w e s) :=
  ⟨rfl, rfl, rfl, by rw [Lib.bytesWorld_size]; omega, fun k hk => Lib.bytesWorld_at_old w e s k hk⟩
/-- a new row of bytes, as '[]byte(s)' makes it -/
def NewBytes (w w' : World) (v : Value) (s : List UInt8) : Prop :=
  ∃ cap fr, v = .slice (some ⟨w.heap.size, 0, none⟩) s.length cap ∧ s.length ≤ cap ∧ w'.heap[w.heap.size]? = some (.cells ((Lib.byteCells s).toArray ++ Array.replicate (cap - s.length) (.int .u8 0)) 5 fr) ∧ (fr.1 = cap ∧ fr.2 = cap + 1)
theorem NewBytes.slice {w w' : World} {v : Value} {s : List UInt8} (h : NewBytes w w' v s) : BytesAt w' v s := by
  obtain ⟨cap, fr, rfl, hc, hb, _⟩ := h
  refine .inr ⟨_, cap, rfl, Agg.heap_lt hb, fun j u hj => ?_⟩
  rw [add_plain, Nat.zero_add, cell_of_row _ _ _ _ _ _ hb]
  obtain ⟨k, a, i, h1, h2, rfl⟩ := Elem.flat_all EB s j u hj
  have hi : i = 0 := by have := (Array.getElem?_eq_some_iff.1 h2).1; have e : (EB.val a).cells.size = 1 := rfl; omega
  subst hi
  have hk := (List.getElem?_eq_some_iff.1 h1).1
  have hn : EB.n = 1 := rfl
  rw [hn, Nat.mul_one, Nat.add_zero, Array.getElem?_append_left (by simpa [Lib.byteCells] using hk)]
  have e2 : u = .int .u8 (a.toNat : Int) := by
    have : (EB.val a).cells[0]? = some (.int .u8 (a.toNat : Int)) := rfl
    rw [this] at h2
    exact (Option.some.inj h2).symm
  simp [Lib.byteCells, h1, e2]
theorem run_toBytes (w : World) (s : List UInt8) : ∃ v w', (convert 9 23 (.string ⟨s.toArray⟩)).run Try.prog w = .ok v w' ∧ NewBytes w w' v s ∧ Below w.heap.size w w' := by
  refine ⟨_, _, Lib.run_convert_string_bytes w 9 23 5 ⟨s.toArray⟩ Try.underlying9 (by kernel_rfl) Try.underlying5, ?_, bytes_below _ _ _⟩
  have hsz : (⟨s.toArray⟩ : ByteArray).size = s.length := Agg.bytes_size s
  have hge := grownCap_ge w s.length 0 5
  refine ⟨grownCap w s.length 0 5, (grownCap w s.length 0 5, grownCap w s.length 0 5 + 1), by rw [hsz], hge, ?_, rfl, rfl⟩
  rw [Lib.bytesWorld_at_new]
  have e : Lib.bytesCells w 5 ⟨s.toArray⟩ = (Lib.byteCells s).toArray ++ Array.replicate (grownCap w s.length 0 5 - s.length) (.int .u8 0) := by
    simp [Lib.bytesCells, hsz, Lib.byteCells]
  have e2 : ((Lib.byteCells s).toArray ++ Array.replicate (grownCap w s.length 0 5 - s.length) (Value.int .u8 0)).size = grownCap w s.length 0 5 := by
    simp [Lib.byteCells]; omega
  rw [e, e2]
theorem run_toStr {w : World} {v : Value} {s : List UInt8} (h : BytesAt w v s) : (convert 23 9 v).run Try.prog w = .ok (.string ⟨s.toArray⟩) w := by
  rcases h with ⟨p, c, rfl, rfl⟩ | ⟨p, cap, rfl, hp, h⟩
  · cases p with
    | none => exact run_convert_bytes_nil w 23 5 (by kernel_rfl) Try.underlying5 0 c 9 Try.underlying9
    | some p => exact run_convert_bytes_back w 23 9 5 p c [] (by kernel_rfl) Try.underlying5 Try.underlying9 (fun j hj => by simp at hj)
  · refine run_convert_bytes_back w 23 9 5 p cap s (by kernel_rfl) Try.underlying5 Try.underlying9 fun j hj => ?_
    have := h (j * 1 + 0) (.int .u8 (s[j].toNat : Int)) (EB.flat_get s j s[j] 0 _ (List.getElem?_eq_getElem hj) rfl)
    rwa [Nat.mul_one, Nat.add_zero] at this
section
variable {ops : Array Oper} {rest : List Oper} {o : Oper} {a : Act} {w : World} {Q : Exit → Act → World → Prop}
theorem wpList_toBytes (s : List UInt8) (x : Operand) (ho : o.op = .convert 9 23 x) (hw : Region.wanted o (yielded ops a.tmps) = true) (hx : a.eval x = .string ⟨s.toArray⟩)
    (h : ∀ v' w', NewBytes w w' v' s → Below w.heap.size w w' → wpList Try.prog ops Q rest (a.put o.dst v') w') : wpList Try.prog ops Q (o :: rest) a w := by
  obtain ⟨v', w', hr, h1, h2⟩ := run_toBytes w s
  refine wpList_valw hw ?_ (h v' w' h1 h2)
  simp [execOp, ho, hx, hr]
theorem wpList_toStr {v : Value} {s : List UInt8} (hs : BytesAt w v s) (x : Operand) (ho : o.op = .convert 23 9 x) (hw : Region.wanted o (yielded ops a.tmps) = true) (hx : a.eval x = v)
    (h : wpList Try.prog ops Q rest (a.put o.dst (.string ⟨s.toArray⟩)) w) : wpList Try.prog ops Q (o :: rest) a w := by
  subst hx
  refine wpList_valw hw ?_ h
  simp [execOp, ho, run_toStr hs]
end
end Go.Proofs.Ytpnolgliklmnmaa
