/- Frames: sizes. -/
import Derived.Test.YtpnolgliklmnmaaFrames
import Derived.Test.YtpnolgliklmnmaaRowsK
import Derived.Test.YtpnolgliklmnmaaMk0
namespace Go.Proofs.Ytpnolgliklmnmaa
open Go.RowKit Pl Go.Agg
theorem bytesSz_mem {ls : List (List UInt8)} {l : List UInt8} (h : l ∈ ls) : l.length ≤ bytesSz ls := by
  induction ls with
  | nil => cases h
  | cons x t ih =>
    simp only [bytesSz, List.map_cons, List.sum_cons] at ih ⊢
    rcases List.mem_cons.1 h with rfl | h
    · omega
    · have := ih h; omega
theorem bytesSz_len (ls : List (List UInt8)) : ls.length ≤ bytesSz ls := by
  induction ls with
  | nil => simp
  | cons x t ih => simp only [bytesSz, List.map_cons, List.sum_cons, List.length_cons] at ih ⊢; omega
theorem framed_sz {ls : List (List UInt8)} (h : ∀ l ∈ ls, l.length ≤ 65536) : (framed ls).length ≤ 6 * bytesSz ls := by
  induction ls with
  | nil => simp [framed]
  | cons x t ih =>
    have h1 := encN_len (n := x.length) (by have := h x (by simp); omega)
    have h2 := ih fun l hl => h l (by simp [hl])
    simp only [framed, bytesSz, List.map_cons, List.sum_cons, List.flatMap_cons, List.length_append] at h2 ⊢
    omega
theorem frames_rest {n : Nat} : ∀ {b : List UInt8} {ls : List (List UInt8)} {r : List UInt8}, b.length ≤ n → frames b = some (ls, r) → bytesSz ls + r.length ≤ b.length := by
  induction n with
  | zero =>
    intro b ls r hb h
    obtain rfl : b = [] := List.length_eq_zero_iff.1 (by omega)
    have h0 : frames [] = some ([], []) := frames_end (b := []) (by decide) (.inl (by decide))
    rw [h0] at h
    obtain ⟨rfl, rfl⟩ : [] = ls ∧ [] = r := by simpa using h
    simp [bytesSz]
  | succ n ih =>
    intro b ls r hb h
    by_cases h1 : (beg b).1 < 0
    · rw [frames_wrong h1] at h; cases h
    · by_cases h2 : (beg b).1 = 0 ∨ b.length < (beg b).1.toNat + (beg b).2
      · rw [frames_end h1 h2] at h
        obtain ⟨rfl, rfl⟩ : [] = ls ∧ b = r := by simpa using h
        simp [bytesSz]
      · rw [frames_step h1 h2] at h
        cases hf : frames (b.drop ((beg b).1.toNat + (beg b).2)) with
        | none => rw [hf] at h; cases h
        | some q =>
          rw [hf] at h
          obtain ⟨rfl, rfl⟩ : ((b.drop (beg b).1.toNat).take (beg b).2 :: q.1) = ls ∧ q.2 = r := by simpa using h
          have := ih (b := b.drop ((beg b).1.toNat + (beg b).2)) (ls := q.1) (r := q.2) (by simp; omega) hf
          simp only [bytesSz, List.map_cons, List.sum_cons, List.length_drop, List.length_take] at this ⊢
          omega
end Go.Proofs.Ytpnolgliklmnmaa
