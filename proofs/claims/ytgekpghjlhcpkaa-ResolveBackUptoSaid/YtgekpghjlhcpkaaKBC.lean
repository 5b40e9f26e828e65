/- The resolved derivation of bytes: the plain law. -/
import Derived.Test.YtgekpghjlhcpkaaKAO
namespace Go.Proofs.Ytgekpghjlhcpkaa
open Go.RowKit Pl Go.Agg
def sIn (s : Option (List UInt8)) : Rin × Option (List UInt8) :=
  (((sText 24 s).1, ⟨((sHash (sText 24 s).2).1, (sText 24 (sHash (sText 24 s).2).2).1), sHash_length _⟩), (sText 24 (sHash (sText 24 s).2).2).2)
def sIns : Nat → Option (List UInt8) → List Rin × Option (List UInt8)
  | 0, s => ([], s)
  | k + 1, s => ((sIns k s).1 ++ [(sIn (sIns k s).2).1], (sIn (sIns k s).2).2)
def gNm (b : List UInt8) := sText 24 (some b)
def gN (b : List UInt8) := sNum 8 (gNm b).2
def gIns (b : List UInt8) := sIns (gN b).1 (gN b).2
def gRc (b : List UInt8) := sText 1000 (gIns b).2
def gRv (b : List UInt8) : Rv := ((gNm b).1, (gIns b).1, (gRc b).1)
def getRv (b : List UInt8) : Option Rv := if (gRc b).2 = some [] ∧ canRv (gRv b) = true then some (gRv b) else none
theorem sHash_len (s : Option (List UInt8)) : stLen (sHash s).2 ≤ stLen s := sRaw_len 20 s
theorem sIn_len (s : Option (List UInt8)) : stLen (sIn s).2 ≤ stLen s :=
  Nat.le_trans (sText_len _ _) (Nat.le_trans (sHash_len _) (sText_len _ _))
theorem sIns_len : ∀ (k : Nat) (s : Option (List UInt8)), stLen (sIns k s).2 ≤ stLen s ∧ (sIns k s).1.length = k
  | 0, s => ⟨Nat.le_refl _, rfl⟩
  | k + 1, s => by
    obtain ⟨h1, h2⟩ := sIns_len k s
    refine ⟨Nat.le_trans (sIn_len _) h1, ?_⟩
    simp only [sIns, List.length_append, h2]
    rfl
theorem sIn_put {x : Rin} (h1 : x.1.length ≤ 24) (h2 : x.2.1.2.length ≤ 24) (y : List UInt8) : sIn (some (putRi x ++ y)) = (x, some y) := by
  obtain ⟨n, ⟨h, p⟩, hl⟩ := x
  simp only at h1 h2
  have e1 : sText 24 (some (putRi (n, ⟨(h, p), hl⟩) ++ y)) = (n, some (h ++ (encT p ++ y))) := by
    have := sText_enc (most := 24) (l := n) h1 (by omega) (h ++ (encT p ++ y))
    rw [← this]
    simp [putRi, List.append_assoc]
  have e2 : sHash (some (h ++ (encT p ++ y))) = (h, some (encT p ++ y)) := sHash_enc hl _
  have e3 : sText 24 (some (encT p ++ y)) = (p, some y) := sText_enc h2 (by omega) y
  unfold sIn
  simp only [e1, e2, e3]
theorem sIn_some {s : Option (List UInt8)} {x : Rin} {y : List UInt8} (h : sIn s = (x, some y)) : s = some (putRi x ++ y) := by
  unfold sIn at h
  obtain ⟨n, s1, e1⟩ : ∃ n s1, sText 24 s = (n, s1) := ⟨_, _, rfl⟩
  obtain ⟨hh, s2, e2⟩ : ∃ n s2, sHash s1 = (n, s2) := ⟨_, _, rfl⟩
  obtain ⟨p, s3, e3⟩ : ∃ n s3, sText 24 s2 = (n, s3) := ⟨_, _, rfl⟩
  simp only [e1, e2, e3, Prod.mk.injEq] at h
  obtain ⟨rfl, rfl⟩ := h
  obtain ⟨rfl, _⟩ := sText_some e3
  obtain ⟨rfl, _⟩ := sHash_some e2
  obtain ⟨rfl, _⟩ := sText_some e1
  simp [putRi, List.append_assoc]
theorem sIns_put : ∀ (k : Nat) (l : List Rin) (y : List UInt8), l.length = k → (∀ x ∈ l, x.1.length ≤ 24 ∧ x.2.1.2.length ≤ 24) → sIns k (some (l.flatMap putRi ++ y)) = (l, some y)
  | 0, l, y, hl, _ => by
    obtain rfl := List.length_eq_zero_iff.1 hl
    rfl
  | k + 1, l, y, hl, h => by
    obtain ⟨x, hx⟩ : ∃ x, l[k]? = some x := ⟨_, List.getElem?_eq_getElem (by omega)⟩
    have e : l = l.take k ++ [x] := by
      have := List.take_add_one (l := l) (i := k)
      rw [List.take_of_length_le (by omega), hx] at this
      exact this
    have hx2 := h x (List.mem_of_getElem? hx)
    have ih := sIns_put k (l.take k) (putRi x ++ y) (by rw [List.length_take]; omega) (fun z hz => h z (List.mem_of_mem_take hz))
    rw [e, List.flatMap_append]
    simp only [List.flatMap_cons, List.flatMap_nil, List.append_nil, List.append_assoc, sIns]
    rw [ih, sIn_put hx2.1 hx2.2]
theorem sIns_some : ∀ (k : Nat) (s : Option (List UInt8)) (l : List Rin) (y : List UInt8), sIns k s = (l, some y) → s = some (l.flatMap putRi ++ y)
  | 0, s, l, y, h => by
    simp only [sIns, Prod.mk.injEq] at h
    obtain ⟨rfl, rfl⟩ := h
    rfl
  | k + 1, s, l, y, h => by
    simp only [sIns, Prod.mk.injEq] at h
    obtain ⟨rfl, h2⟩ := h
    have e1 := sIn_some (Prod.ext rfl h2 : sIn (sIns k s).2 = ((sIn (sIns k s).2).1, some y))
    have e2 := sIns_some k s (sIns k s).1 _ (Prod.ext rfl e1)
    refine e2.trans ?_
    simp [List.flatMap_append, List.append_assoc]
theorem get_put {r : Rv} (h : canRv r = true) : getRv (putRs r) = some r := by
  have P := can_parts h
  have hn := P.name
  have hi := P.inp
  have hr := P.rcp
  have e1 : gNm (putRs r) = (r.1, some (encN r.2.1.length ++ (r.2.1.flatMap putRi ++ encT r.2.2))) := sText_enc (most := 24) hn (by omega) _
  have e2 : gN (putRs r) = (r.2.1.length, some (r.2.1.flatMap putRi ++ encT r.2.2)) := by unfold gN; rw [e1]; exact sNum_enc (by omega) hi _
  have e3 : gIns (putRs r) = (r.2.1, some (encT r.2.2)) := by unfold gIns; rw [e2]; exact sIns_put _ _ _ rfl P.ins
  have e4 : gRc (putRs r) = (r.2.2, some []) := by
    unfold gRc
    rw [e3]
    have := sText_enc (most := 1000) (l := r.2.2) hr (by omega) []
    rwa [List.append_nil] at this
  have e5 : gRv (putRs r) = r := by unfold gRv; rw [e1, e3, e4]
  unfold getRv
  rw [e4, e5, if_pos ⟨rfl, h⟩]
theorem put_get {b : List UInt8} {r : Rv} (h : getRv b = some r) : canRv r = true ∧ putRs r = b := by
  unfold getRv at h
  split at h
  · rename_i hc
    obtain ⟨h1, h2⟩ := hc
    obtain rfl := Option.some.inj h
    refine ⟨h2, ?_⟩
    have e4 := (sText_some (Prod.ext rfl h1 : gRc b = ((gRc b).1, some []))).1
    rw [List.append_nil] at e4
    have e3 := sIns_some _ _ _ _ (Prod.ext rfl e4 : gIns b = ((gIns b).1, some (encT (gRc b).1)))
    have e2 := (sNum_some (Prod.ext rfl e3 : gN b = ((gN b).1, some ((gIns b).1.flatMap putRi ++ encT (gRc b).1)))).1
    have e1 := (sText_some (Prod.ext rfl e2 : gNm b = ((gNm b).1, some _))).1
    have e0 := Option.some.inj e1
    have hl : (gIns b).1.length = (gN b).1 := (sIns_len _ _).2
    unfold putRs gRv
    simp only
    rw [hl]
    exact e0.symm
  · cases h
/-- what is got; the error -/
def getO (b : List UInt8) : Rv := (getRv b).getD zRv
def getE (b : List UInt8) : Nat := match getRv b with | some _ => 0 | none => 4
theorem getO_some {b : List UInt8} {r : Rv} (h : getRv b = some r) : getO b = r ∧ getE b = 0 := by unfold getO getE; rw [h]; exact ⟨rfl, rfl⟩
theorem getO_none {b : List UInt8} (h : getRv b = none) : getO b = zRv ∧ getE b = 4 := by unfold getO getE; rw [h]; exact ⟨rfl, rfl⟩
theorem putRs_inj {r s : Rv} (hr : canRv r = true) (hs : canRv s = true) (h : putRs r = putRs s) : r = s := by
  have h1 := get_put hr
  rw [h, get_put hs] at h1
  exact (Option.some.inj h1).symm
end Go.Proofs.Ytgekpghjlhcpkaa
