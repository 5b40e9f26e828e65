/- The resolved derivation of bytes: the plain law. -/
import Derived.Test.YtdebbmembkbniaaGreatTAQ
namespace Go.Proofs.YtdebbmembkbniaaGreat
open Go.RowKit Pl Go.Agg
def sIn (s : Option (List UInt8)) : Rin × Option (List UInt8) :=
 (((sText 24 s).1, ⟨((sHash (sText 24 s).2).1, (sText 24 (sHash (sText 24 s).2).2).1), sHash_length _⟩), (sText 24 (sHash (sText 24 s).2).2).2)
def sIns : Nat → Option (List UInt8) → List Rin × Option (List UInt8)
 | 0, s => ([], s)
 | k + 1, s => ((sIns k s).1 ++ [(sIn (sIns k s).2).1], (sIn (sIns k s).2).2)
def gNm (b : List UInt8) := sText 24 (some b)
def gN (b : List UInt8) := sNum 8 (gNm b).2
def gIns (b : List UInt8) := sIns (gN b).1 (gN b).2
def gRc (b : List UInt8) := sText 1000 (gIns b).2
def gRv (b : List UInt8) : Rv := ((gNm b).1, (gIns b).1, (gRc b).1)
def getRv (b : List UInt8) : Option Rv := if (gRc b).2 = some [] ∧ canRv (gRv b) = true then some (gRv b) else none
theorem sHash_len (s : Option (List UInt8)) : stLen (sHash s).2 ≤ stLen s := sRaw_len 20 s
theorem sIn_len (s : Option (List UInt8)) : stLen (sIn s).2 ≤ stLen s :=
 Nat.le_trans (sText_len _ _) (Nat.le_trans (sHash_len _) (sText_len _ _))
theorem sIns_len : ∀ (k : Nat) (s : Option (List UInt8)), stLen (sIns k s).2 ≤ stLen s ∧ (sIns k s).1.length = k
 | 0, s => ⟨Nat.le_refl _, rfl⟩
 | k + 1, s => by
  obtain ⟨h1, h2⟩ := sIns_len k s
  refine ⟨Nat.le_trans (sIn_len _) h1, ?_⟩
  simp only [sIns, List.length_append, h2]
  rfl
theorem sIn_some {s : Option (List UInt8)} {x : Rin} {y : List UInt8} (h : sIn s = (x, some y)) : s = some (putRi x ++ y) := by
 unfold sIn at h
 obtain ⟨n, s1, e1⟩ : ∃ n s1, sText 24 s = (n, s1) := ⟨_, _, rfl⟩
 obtain ⟨hh, s2, e2⟩ : ∃ n s2, sHash s1 = (n, s2) := ⟨_, _, rfl⟩
 obtain ⟨p, s3, e3⟩ : ∃ n s3, sText 24 s2 = (n, s3) := ⟨_, _, rfl⟩
 simp only [e1, e2, e3, Prod.mk.injEq] at h
 obtain ⟨rfl, rfl⟩ := h
 obtain ⟨rfl, _⟩ := sText_some e3
 obtain ⟨rfl, _⟩ := sHash_some e2
 obtain ⟨rfl, _⟩ := sText_some e1
 simp [putRi, List.append_assoc]
theorem sIns_some : ∀ (k : Nat) (s : Option (List UInt8)) (l : List Rin) (y : List UInt8), sIns k s = (l, some y) → s = some (l.flatMap putRi ++ y)
 | 0, s, l, y, h => by
  simp only [sIns, Prod.mk.injEq] at h
  obtain ⟨rfl, rfl⟩ := h
  rfl
 | k + 1, s, l, y, h => by
  simp only [sIns, Prod.mk.injEq] at h
  obtain ⟨rfl, h2⟩ := h
  have e1 := sIn_some (Prod.ext rfl h2 : sIn (sIns k s).2 = ((sIn (sIns k s).2).1, some y))
  have e2 := sIns_some k s (sIns k s).1 _ (Prod.ext rfl e1)
  refine e2.trans ?_
  simp [List.flatMap_append, List.append_assoc]
theorem put_get {b : List UInt8} {r : Rv} (h : getRv b = some r) : canRv r = true ∧ putRs r = b := by
 unfold getRv at h
 split at h
 ·rename_i hc
  obtain ⟨h1, h2⟩ := hc
  obtain rfl := Option.some.inj h
  refine ⟨h2, ?_⟩
  have e4 := (sText_some (Prod.ext rfl h1 : gRc b = ((gRc b).1, some []))).1
  rw [List.append_nil] at e4
  have e3 := sIns_some _ _ _ _ (Prod.ext rfl e4 : gIns b = ((gIns b).1, some (encT (gRc b).1)))
  have e2 := (sNum_some (Prod.ext rfl e3 : gN b = ((gN b).1, some ((gIns b).1.flatMap putRi ++ encT (gRc b).1)))).1
  have e1 := (sText_some (Prod.ext rfl e2 : gNm b = ((gNm b).1, some _))).1
  have e0 := Option.some.inj e1
  have hl : (gIns b).1.length = (gN b).1 := (sIns_len _ _).2
  unfold putRs gRv
  simp only
  rw [hl]
  exact e0.symm
 ·cases h
def getO (b : List UInt8) : Rv := (getRv b).getD zRv
def getE (b : List UInt8) : Nat := match getRv b with | some _ => 0 | none => 4
theorem getO_some {b : List UInt8} {r : Rv} (h : getRv b = some r) : getO b = r ∧ getE b = 0 := by unfold getO getE; rw [h]; exact ⟨rfl, rfl⟩
theorem getO_none {b : List UInt8} (h : getRv b = none) : getO b = zRv ∧ getE b = 4 := by unfold getO getE; rw [h]; exact ⟨rfl, rfl⟩
end Go.Proofs.YtdebbmembkbniaaGreat
