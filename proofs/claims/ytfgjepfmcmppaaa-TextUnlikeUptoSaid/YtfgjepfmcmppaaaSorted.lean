/- base.Sorted: its paths once, rising. -/
import Derived.Test.YtfgjepfmcmppaaaSortQ
import Derived.Test.YtfgjepfmcmppaaaMaps
import Derived.Test.YtfgjepfmcmppaaaTells
import Derived.Great.BuildSlice
namespace Go.Proofs.Ytfgjepfmcmppaaa
open Go.RowKit Pl Go.Mp Go.Agg
/-- paths, each once, in the order in which they came -/
def once (l : List P20) : List P20 := l.foldl (fun D x => if x ∈ D then D else D ++ [x]) []
theorem once_snoc (l : List P20) (x : P20) : once (l ++ [x]) = if x ∈ once l then once l else once l ++ [x] := by
  unfold once
  rw [List.foldl_append]
  rfl
theorem snoc_ind {p : List P20 → Prop} (h0 : p []) (h1 : ∀ l x, p l → p (l ++ [x])) (l : List P20) : p l := by
  rw [← List.reverse_reverse l]
  induction l.reverse with
  | nil => exact h0
  | cons x r ih => rw [List.reverse_cons]; exact h1 _ _ ih
theorem mem_once (l : List P20) : ∀ x, x ∈ once l ↔ x ∈ l := by
  refine snoc_ind (p := fun l => ∀ x, x ∈ once l ↔ x ∈ l) ?_ ?_ l
  · simp [once]
  · intro l y ih
    intro x
    rw [once_snoc]
    split
    · rename_i h
      rw [ih, List.mem_append, List.mem_singleton]
      constructor
      · exact .inl
      · rintro (h' | rfl)
        · exact h'
        · exact (ih _).1 h
    · simp [ih]
theorem once_nodup (l : List P20) : (once l).Nodup := by
  refine snoc_ind (p := fun l => (once l).Nodup) ?_ ?_ l
  · simp [once]
  · intro l y ih
    rw [once_snoc]
    split
    · exact ih
    · rename_i h
      rw [List.nodup_append]
      exact ⟨ih, by simp, fun a ha b hb => by obtain rfl : b = y := (by simpa using hb); exact fun e => h (e ▸ ha)⟩
theorem once_le (l : List P20) : (once l).length ≤ l.length := by
  refine snoc_ind (p := fun l => (once l).length ≤ l.length) ?_ ?_ l
  · simp [once]
  · intro l y ih
    rw [once_snoc]
    split <;> simp <;> omega
theorem own_keep {w w' : World} {base : Nat} {e : TypeId} {n sz : Nat} {v : Value} {xs : List Value} (h : w.ownsRow base e sz v n xs) (hk : ∀ (g : Nat) (cur : Array Value) (t : TypeId) (fr : Nat × Nat), w.heap[g]? = some (Obj.cells cur t fr) → w'.heap[g]? = some (Obj.cells cur t fr)) : w'.ownsRow base e sz v n xs := by
  obtain ⟨h1, h2⟩ := h
  refine ⟨h1, ?_⟩
  rcases h2 with h2 | ⟨g, cap, cur, e1, e2, e3, e4⟩
  · exact .inl h2
  · exact .inr ⟨g, cap, cur, e1, e2, hk _ _ _ _ e3, e4⟩
theorem own_below {w w' : World} {base : Nat} {e : TypeId} {n sz : Nat} {v : Value} {xs : List Value} (h : w.ownsRow base e sz v n xs) (hb : Below w.heap.size w w') : w'.ownsRow base e sz v n xs :=
  own_keep h fun _ _ _ _ hg => Agg.keep' hb hg
theorem store_none (a : Addr) (w : World) : (storeCells a []).run Try.prog w = .ok () w := by simp [storeCells]
set_option maxRecDepth 100000 in
/-- a slice literal of one path -/
theorem slice_one (x : P20) (w : World) : (Instr.buildSlice 54 1 #[(0, pV x)]).run Try.prog w = .ok (.slice (some ⟨w.heap.size, 0, none⟩) 1 1) (w.alloc (.cells (pC x.1.1 x.1.2) 40)) := by
  have hz := pC_zero
  have hs := pC_info x.1.1 x.1.2 x.2
  cases hi : Try.prog.info? 40 with
  | none => rw [hi] at hz; cases hz
  | some ie =>
    rw [hi] at hz hs
    have hsz : ie.size = 21 := by
      have := Option.some.inj hs
      rw [pC_size, x.2] at this
      exact this
    refine run_buildSlice w 54 40 1 _ (pC x.1.1 x.1.2) ie (.agg (pC z20 [])) (by kernel_rfl) hi (Option.some.inj hz) (by rw [hsz]; decide) (by rw [hsz]; decide) ?_
    rw [hsz]
    show Instr.fill _ _ [(0, pV x)] = _
    rw [Agg.fill_cons (off := 0) (size := 21) rfl (by simp [pV, Value.cells, pC_size, x.2]) (by simp), Agg.fill_nil]
    congr 1
    apply Array.ext'
    simp [Agg.splice, pV, Value.cells, pC_size, x.2]
theorem map_not_cells {w : World} {b : Nat} {m : List (P20 × Unit)} (h : MapIs w b pV (fun _ => .agg #[]) m) {cur : Array Value} {t : TypeId} {fr : Nat × Nat} (hc : w.heap[b]? = some (Obj.cells cur t fr)) : False := by
  obtain ⟨es, c, hb, _⟩ := h
  rw [hb] at hc; cases hc
def nU : Unit → Value := fun _ => .agg #[]
theorem own_new {wr w2 w3 : World} {base b n sz : Nat} {e : TypeId} {v : Value} {xs : List Value} {m : List (P20 × Unit)} (h : wr.ownsRow base e sz v n xs) (hx : Below wr.heap.size wr w2) (hm : MapIs w2 b pV nU m) (hb : ButMap b w2 w3) (o : Obj) : (w3.alloc o).ownsRow base e sz v n xs :=
  own_keep h fun g cur t fr hg => by
    have h2 := Agg.keep' hx hg
    have hne : g ≠ b := fun e => map_not_cells hm (e ▸ h2)
    have h3 := (hb.other hne).trans h2
    exact (heap_alloc_old _ _ (Agg.heap_lt h3)).trans h3
theorem own_apart {w : World} {base b n sz : Nat} {e : TypeId} {v : Value} {xs : List Value} {m : List (P20 × Unit)} (h : w.ownsRow base e sz v n xs) (hm : MapIs w b pV nU m) : some b ≠ v.ownBlock ∧ ∀ k, v.ownBlock = some k → base ≤ k := by
  obtain ⟨_, ⟨rfl, _⟩ | ⟨g, cap, cur, rfl, hb, hc, _⟩⟩ := h
  · exact ⟨by simp [Value.ownBlock], fun k hk => by simp [Value.ownBlock] at hk⟩
  · refine ⟨fun e => ?_, fun k hk => ?_⟩
    · have : b = g := by simpa [Value.ownBlock] using e
      subst this
      exact map_not_cells hm hc
    · have : g = k := by simpa [Value.ownBlock] using hk
      omega
theorem mput_new (m : List (P20 × Unit)) (x : P20) (h : mget m x = none) : mput m x () = m ++ [(x, ())] := by
  induction m with
  | nil => rfl
  | cons p r ih =>
    by_cases e : x = p.1
    · simp [mget, e] at h
    · have h' : mget r x = none := by simpa [mget, e] using h
      simp [mput, e, ih h']
theorem new_cells (w3 : World) (x : P20) (j : Nat) (u : Value) (hj : (cells20 x)[j]? = some u) : (w3.alloc (.cells (pC x.1.1 x.1.2) 40)).cell? ((⟨w3.heap.size, 0, none⟩ : Addr).add j) = some u := by
  have hadd : (⟨w3.heap.size, 0, none⟩ : Addr).add j = ⟨w3.heap.size, 0 + j, none⟩ := by unfold Addr.add; split <;> simp_all
  rw [hadd, cell_of_row _ _ _ _ _ _ (heap_alloc_new w3 (.cells (pC x.1.1 x.1.2) 40))]
  simpa [cells20] using hj
theorem zeroU (w : World) : (zeroValue 115).run Try.prog w = .ok (.agg #[]) w := by kernel_rfl
theorem mget_once_some (D : List P20) (x : P20) (h : x ∈ D) : mget (D.map fun p => (p, ())) x = some () := by
  unfold mget
  cases hf : (D.map fun p => (p, ())).find? (fun p => decide (x = p.1)) with
  | some y => rfl
  | none =>
    rw [List.find?_eq_none] at hf
    exact absurd (hf (x, ()) (List.mem_map.2 ⟨x, h, rfl⟩)) (by simp)
theorem mget_once_none (D : List P20) (x : P20) (h : ¬ x ∈ D) : mget (D.map fun p => (p, ())) x = none := by
  unfold mget
  rw [List.find?_eq_none.2]
  · rfl
  · intro y hy
    obtain ⟨p, hp, rfl⟩ := List.mem_map.1 hy
    simp only [decide_eq_true_eq]
    rintro rfl
    exact h hp
set_option maxRecDepth 100000 in
set_option maxHeartbeats 1000000 in
theorem sorted_some (v : Value) (l : List P20) (hlen : l.length ≤ 1048576) (hl0 : l ≠ []) (w : World) (he : ElemsAt w v l) :
    Calls Try.prog 34 #[v] w fun e w' => ∃ v R, e = .returned v ∧ Rising R ∧ (∀ x, x ∈ R ↔ x ∈ l) ∧ ElemsAt w' v R ∧ Below w.heap.size w w' := by
  go_enter Try.func34, Try.ntmps34
  have hmm := @run_makeMap Try.prog
  have hlv := fun W => elems_len he W
  go_wp2_with fail
  clear hmm
  have HE := Lib.hid he
  clear he
  go_loopw [2, 11] (fun out i wr => ∃ k : Nat, k ≤ l.length ∧ i = .int .i64 k ∧ wr.ownsRow w.heap.size 40 21 out (once (l.take k)).length (flat (once (l.take k))) ∧ MapIs wr w.heap.size pV nU ((once (l.take k)).map fun p => (p, ())) ∧ Below w.heap.size w wr)
    (fun _ i _ => l.length - (intOf i).toNat)
  case atStart => exact ⟨0, by omega, rfl, ⟨rfl, .inl ⟨rfl, rfl⟩⟩, MapIs.empty _ _ _, (Below.refl _ w).alloc (Nat.le_refl _) _⟩
  case round =>
    obtain ⟨k, hk, rfl, hown, hm, hw⟩ := hrel
    by_cases hlt : k < l.length
    · have hd : decide ((k : Int) < (l.length : Int)) = true := by simp; omega
      have hx : l[k]? = some l[k] := List.getElem?_eq_getElem hlt
      generalize l[k] = x at hx
      obtain ⟨p, hadr, hldL, _⟩ := elem_at (HE.out.below hw) k x hx
      have hld := hldL.now
      clear hldL
      have HX := Lib.hid hx
      have HOWN := Lib.hid hown
      have HMP := Lib.hid hm
      clear hx hown hm
      have hst := store_none
      have hz := heap_alloc_new wr (.cells (pC z20 []) 40)
      have hsz : Hid ((pC z20 []).size = (pC x.1.1 x.1.2).size) := Lib.hid (by rw [pC_size, pC_size, x.2]; rfl)
      obtain ⟨h1, hx1⟩ := laid (w := wr) (t := 40) (pC z20 []) (pC x.1.1 x.1.2)
      have hm1 := HMP.out.keep (hx1.block _ HMP.out.lt)
      have HM1 := Lib.hid hm1
      clear hm1
      by_cases hin : x ∈ once (l.take k)
      · have hmg : mget ((once (l.take k)).map fun p => (p, ())) x = some () := mget_once_some _ _ hin
        go_wp2_with (first | (with_reducible refine Agg.wpList_loadw 40 _ rfl rfl (.pointer (some p)) rfl (.agg (pC x.1.1 x.1.2)) hld ?_) | (with_reducible refine Agg.wpList_alloc_row rfl 40 rfl (pC z20 []) pC_zero ?_) | (with_reducible refine Agg.wpList_set_row rfl rfl 40 _ _ rfl wr.heap.size (pC x.1.1 x.1.2) rfl rfl 40 _ hz (pC_info _ _ x.2) hsz.out (pC_one _ _) ?_) | (with_reducible refine wpList_load_row rfl 40 _ rfl wr.heap.size rfl 40 _ (0, 0) _ h1 pC_under rfl (pC_info _ _ x.2) ?_) | (at_lookup; refine Mp.wpList_lookup_hit rfl _ _ 119 40 115 rfl Try.underlying119 path_key zeroU rfl HM1.out x rfl () hmg ?_; simp only [nU]))
        go_wp2_with fail
        go_roundw
        case rel =>
          refine ⟨k + 1, by omega, by go_num, ?_, ?_, ?_⟩
          · rw [List.take_add_one, HX.out]
            simp only [Option.toList_some]
            rw [once_snoc, if_pos hin]
            exact own_below HOWN.out (hx1.alloc hx1.size _)
          · rw [List.take_add_one, HX.out]
            simp only [Option.toList_some]
            rw [once_snoc, if_pos hin]
            exact HM1.out.keep (heap_alloc_old _ _ HM1.out.lt)
          · exact (Agg.belowThen hw (Nat.le_refl _) hx1).alloc (Nat.le_trans hw.size hx1.size) _
        case measure => simp [intOf]; omega
      · have hmg : mget ((once (l.take k)).map fun p => (p, ())) x = none := mget_once_none _ _ hin
        have hu54 : Try.prog.underlying 54 = some (.slice 40) := by kernel_rfl
        obtain ⟨ie, hie0⟩ := info_path
        have hie := Lib.hid hie0
        clear hie0
        have hzc : (Value.agg (pC z20 [])).cells.size = 21 := by simp [Value.cells, pC_size, z20_length]
        have hol := once_le (l.take k)
        have hol2 : (l.take k).length ≤ l.length := by simp; omega
        have hmx : (once (l.take k)).length + 1 ≤ maxLen := by simp only [maxLen]; omega
        have hby : ((once (l.take k)).length + 1) * 40 ≤ 140737488355328 := by omega
        have hlt1 : wr.heap.size < ((wr.alloc (.cells (pC z20 []) 40)).setRow wr.heap.size (pC x.1.1 x.1.2)).heap.size := Agg.heap_lt h1
        have h2 : (((wr.alloc (.cells (pC z20 []) 40)).setRow wr.heap.size (pC x.1.1 x.1.2)).alloc (.cells #[] 115)).heap[wr.heap.size]? = _ := (heap_alloc_old _ _ hlt1).trans h1
        have HM2 : Hid (MapIs (((wr.alloc (.cells (pC z20 []) 40)).setRow wr.heap.size (pC x.1.1 x.1.2)).alloc (.cells #[] 115)) w.heap.size pV nU ((once (l.take k)).map fun p => (p, ()))) := Lib.hid (HM1.out.keep (heap_alloc_old _ _ HM1.out.lt))
        have hx2 : Below wr.heap.size wr (((wr.alloc (.cells (pC z20 []) 40)).setRow wr.heap.size (pC x.1.1 x.1.2)).alloc (.cells #[] 115)) := hx1.alloc hx1.size _
        have hne : wr.heap.size ≠ w.heap.size := by have := HMP.out.lt; omega
        go_wp2_with (first | (with_reducible refine Agg.wpList_loadw 40 _ rfl rfl (.pointer (some p)) rfl (.agg (pC x.1.1 x.1.2)) hld ?_) | (with_reducible refine Agg.wpList_alloc_row rfl 40 rfl (pC z20 []) pC_zero ?_) | (with_reducible refine Agg.wpList_set_row rfl rfl 40 _ _ rfl wr.heap.size (pC x.1.1 x.1.2) rfl rfl 40 _ hz (pC_info _ _ x.2) hsz.out (pC_one _ _) ?_) | (with_reducible refine wpList_load_row rfl 40 _ rfl wr.heap.size rfl 40 _ (0, 0) _ h1 pC_under rfl (pC_info _ _ x.2) ?_) | (with_reducible refine wpList_load_row rfl 40 _ rfl wr.heap.size rfl 40 _ (0, 0) _ h2 pC_under rfl (pC_info _ _ x.2) ?_) | (with_reducible refine wpList_load_row rfl 40 _ rfl wr.heap.size rfl 40 _ (0, 0) _ h3 pC_under rfl (pC_info _ _ x.2) ?_) | (at_lookup; refine Mp.wpList_lookup_miss rfl _ _ 119 40 115 rfl Try.underlying119 path_key zeroU rfl HM1.out x rfl hmg ?_) | (at_mapUpdate; refine Mp.wpList_mapUpdate rfl rfl _ _ _ 119 40 115 rfl Try.underlying119 path_key rfl HM2.out x rfl () rfl ?_; intro w3 hm3 hb3; have h3 := (hb3.other hne).trans h2) | (with_reducible refine Agg.wpList_buildSlice1 54 1 0 _ rfl rfl (pV x) rfl _ _ (slice_one x _) ?_) | (at_builtin; refine walk_stop ?_))
        refine ⟨?_, trivial⟩
        refine wpList_append_own _ rfl _ _ 54 rfl w.heap.size 40 ie _ 21 40 hu54 hie.out.1 hie.out.2.1 hie.out.2.2.1 hie.out.2.2.2 hzc (by decide) _ _ _ rfl (own_new HOWN.out hx2 HM2.out hb3 _) ⟨w3.heap.size, 0, none⟩ 1 1 (cells20 x) rfl (cells20_length x) (new_cells w3 x) (cells20_one x) hmx hby ?hbs ?_
        case hbs => have h5 := hb3.size; have h6 := hx2.size; have h7 := hw.size; simp only [World.size_alloc] at *; omega
        intro v5 w5 ho5 hg5 _
        go_wp2_with fail
        go_roundw
        case rel =>
          have hon : once (l.take (k + 1)) = once (l.take k) ++ [x] := by
            rw [List.take_add_one, HX.out]
            simp only [Option.toList_some]
            rw [once_snoc, if_neg hin]
          refine ⟨k + 1, by omega, by go_num, ?_, ?_, ?_⟩
          · rw [hon, flat_append, List.length_append]
            simpa [flat] using ho5
          · rw [hon, List.map_append]
            rw [mput_new _ _ hmg] at hm3
            have hm4 := hm3.keep (heap_alloc_old w3 (.cells (pC x.1.1 x.1.2) 40) hm3.lt)
            exact hm4.keep (hg5.block _ hm4.lt (own_apart (own_new HOWN.out hx2 HM2.out hb3 _) hm4).1)
          · have hm4 := hm3.keep (heap_alloc_old w3 (.cells (pC x.1.1 x.1.2) 40) hm3.lt)
            have hb4 : Below w.heap.size w (w3.alloc (.cells (pC x.1.1 x.1.2) 40)) := (hb3.below (Agg.belowThen hw (Nat.le_refl _) hx2) (Nat.le_refl _)).alloc (Nat.le_of_lt hm3.lt) _
            exact hb4.grown hg5 hb4.size (own_apart (own_new HOWN.out hx2 HM2.out hb3 _) hm4).2
        case measure => simp [intOf]; omega
    · obtain rfl : k = l.length := by omega
      go_wp2_with fail
      rw [List.take_length] at hown
      have hne : (once l).length ≠ 0 := by
        intro h0
        obtain ⟨y, hy⟩ := List.exists_mem_of_ne_nil l hl0
        have := (mem_once l y).2 hy
        rw [List.length_eq_zero_iff] at h0
        rw [h0] at this
        cases this
      obtain ⟨hfl, ⟨_, h0⟩ | ⟨g', cap', cur, rfl, hgb, hcur, hle, _, _, htk⟩⟩ := hown
      · exact absurd h0 hne
      refine (sort_own w.heap.size (once l) (once_nodup l) (Nat.le_trans (once_le l) hlen) g' cap' wr cur hgb hw.size hcur htk).mono ?_
      rintro e w1 ⟨rfl, R, hR, hmem, hel, hb1⟩
      go_wp2_with fail
      go_ret
      exact ⟨_, R, rfl, hR, fun x => (hmem x).trans (mem_once l x), hel, hw.trans hb1⟩
end Go.Proofs.Ytfgjepfmcmppaaa
