/- From a slice of the call's own to the sort and back. -/
import Derived.Test.YtfgjepfmcmppaaaSortP
namespace Go.Proofs.Ytfgjepfmcmppaaa
open Go.RowKit Pl Go.Sort
theorem flat_at (l : List P20) (t : Nat) (h : t < l.length * 21) : (flat l)[t]? = some ((cells20 (l.toArray[t / 21]!))[t % 21]!) := by
  have hq : t / 21 < l.length := by omega
  have hp : l[t / 21]? = some l[t / 21] := List.getElem?_eq_getElem hq
  have hc : t % 21 < (cells20 l[t / 21]).length := by rw [cells20_length]; omega
  have e := flat_get l (t / 21) l[t / 21] (t % 21) ((cells20 l[t / 21])[t % 21]) hp (by
    rw [← Array.getElem?_toList]
    exact List.getElem?_eq_getElem hc)
  rw [show t / 21 * 21 + t % 21 = t by omega] at e
  rw [e, getElem!_pos l.toArray (t / 21) (by simpa using hq)]
  simp only [List.getElem_toArray]
  rw [getElem!_pos _ (t % 21) hc]
theorem holdsK_of (w : World) (g off : Nat) (l : List P20) (h : ∀ j u, (flat l)[j]? = some u → w.cell? ⟨g, off + j, none⟩ = some u) (hf : ∀ j, j < l.length * 21 → w.frozen? ⟨g, off + j, none⟩ = false) : HoldsK cells20 21 w g off l.toArray := by
  intro j hj
  rw [size_flatK] at hj
  have hj' : j < l.length * 21 := by simpa using hj
  refine ⟨?_, hf j hj'⟩
  rw [h j _ (flat_at l j hj'), get_flatK _ _ _ _ (by simpa using hj')]
  rfl
theorem elems_of_holdsK (w : World) (g off cap : Nat) (l : List P20) (hg : g < w.heap.size) (h : HoldsK cells20 21 w g off l.toArray) : ElemsAt w (.slice (some ⟨g, off, none⟩) l.length cap) l := by
  refine .inr ⟨⟨g, off, none⟩, cap, rfl, hg, fun j u hj => ?_⟩
  rw [flat20] at hj
  rw [Agg.add_plain]
  have hlt : j < l.length * 21 := by rw [← flat_length]; exact (List.getElem?_eq_some_iff.1 hj).1
  have := (h j (by rw [size_flatK]; simpa using hlt)).1
  rw [get_flatK _ _ _ _ (by simpa using hlt)] at this
  rw [flat_at l j hlt] at hj
  rw [this, ← Option.some.inj hj]
  rfl
theorem putRow_below {B blk off : Nat} {a w : World} {d : Array P20} (h : Below B a w) (hB : B ≤ blk) : Below B a (putRowK cells20 21 w blk off d) := by
  refine h.trans ⟨rfl, rfl, rfl, ?_, fun k hk => ?_⟩
  · show w.heap.size ≤ (w.heap.modify blk _).size
    simp
  · show (w.heap.modify blk _)[k]? = w.heap[k]?
    rw [Array.getElem?_modify, if_neg (by omega)]
theorem grow_below {B : Nat} {a w : World} (os : Array Obj) (h : Below B a w) (hB : B ≤ w.heap.size) : Below B a (grow w os) := by
  refine h.trans ⟨rfl, rfl, rfl, ?_, fun k hk => ?_⟩
  · show w.heap.size ≤ (w.heap ++ os).size
    simp
  · show (w.heap ++ os)[k]? = w.heap[k]?
    exact Array.getElem?_append_left (by omega)
/-- slices.SortFunc over a slice of the call's own, whose paths differ: it holds the same, rising -/
theorem sort_own (base : Nat) (D : List P20) (hD : D.Nodup) (hlen : D.length ≤ 1048576) (g cap : Nat) (w : World) (cur : Array Value) (hg : base ≤ g) (hbw : base ≤ w.heap.size) (hb : w.heap[g]? = some (.cells cur 40 (0, 0))) (htk : cur.toList.take (D.length * 21) = flat D) :
    Calls Try.prog 61 #[.slice (some ⟨g, 0, none⟩) D.length cap, .func (.func 62) #[] #[]] w fun e w' =>
      e = .returned (.tuple #[]) ∧ ∃ R, Rising R ∧ (∀ x, x ∈ R ↔ x ∈ D) ∧ ElemsAt w' (.slice (some ⟨g, 0, none⟩) D.length cap) R ∧ RowKit.Below base w w' := by
  have hgl := Agg.heap_lt hb
  have hcells : ∀ j u, (flat D)[j]? = some u → w.cell? ⟨g, 0 + j, none⟩ = some u := fun j u hj => by
    rw [Nat.zero_add, cell_of_row _ _ _ _ _ _ hb]
    rw [← htk, List.getElem?_take] at hj
    split at hj
    · simpa using hj
    · cases hj
  have hH := holdsK_of w g 0 D hcells (fun j _ => frozen_of_row _ _ _ _ _ hb)
  have hs := sort_any D.toArray g 0 cap w hH hgl (by simp; omega)
  rw [List.size_toArray] at hs
  refine hs.mono fun e w' ⟨he, d', n, os, hp, hso, hw⟩ => ?_
  obtain ⟨hsz, _, hperm⟩ := hp
  have hsz' : d'.size = D.length := by simpa using hsz
  have hP : d'.toList.Perm D := by
    have e1 : (d'.extract 0 D.length).toList = d'.toList := by rw [← hsz']; simp
    have e2 : (D.toArray.extract 0 D.length).toList = D := by simp
    rw [e1, e2] at hperm
    exact hperm
  have hll : d'.toList.length = D.length := by simpa using hsz'
  have hd : d'.toList.toArray = d' := by simp
  have hH' : HoldsK cells20 21 w' g 0 d'.toList.toArray := by
    rw [hd, hw]
    have h1 : HoldsK cells20 21 (putRowK cells20 21 (Sort.ahead w n) g 0 d') g 0 d' := holdsK_putRowK cells20 21 (Sort.ahead w n) g 0 D.toArray d' (holdsK_ahead cells20 21 w n g 0 _ hH) (by simpa using hsz')
    exact holdsK_grow cells20 21 _ os g 0 d' (by show g < (w.heap.modify g _).size; simpa using hgl) h1
  have hB : RowKit.Below base w w' := by
    rw [hw]
    have h1 : RowKit.Below base w (Sort.ahead w n) := ⟨rfl, rfl, rfl, Nat.le_refl _, fun _ _ => rfl⟩
    exact grow_below os (putRow_below h1 hg) (by show base ≤ (w.heap.modify g _).size; simpa using hbw)
  refine ⟨he, d'.toList, ?_, fun x => hP.mem_iff, ?_, hB⟩
  · refine rising_of_sorted _ (hP.nodup_iff.2 hD) ?_
    rw [List.pairwise_iff_getElem]
    intro i j hi hj hij
    have := hso i j (Nat.zero_le _) hij (by omega)
    rw [getElem!_pos d' j (by simpa using hj), getElem!_pos d' i (by simpa using hi)] at this
    simpa using this
  · have := elems_of_holdsK w' g 0 cap d'.toList (Nat.lt_of_lt_of_le hgl hB.size) hH'
    rwa [hll] at this
end Go.Proofs.Ytfgjepfmcmppaaa
