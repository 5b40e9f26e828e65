/- A row's argument of bytes, read and laid again; the wrap for a row of the second form with the world's shape. (Several texts in one.) -/
import Derived.Test.YtfiadgdinhmgbaaDoorHAD
import Derived.Test.YtfiadgdinhmgbaaDoorHAF
import Derived.Test.YtfiadgdinhmgbaaDoorHAE
import Derived.Test.YtfiadgdinhmgbaaDoorShelf
import Derived.JoinedCond
import Derived.OpenShut
import Derived.Shelf.Vars
import Derived.Lib.UnsafeStr
/-! (*tree.looker).right: whether a tree is right, so many nodes behind, so deep down; looked, Right. -/
namespace Go.Tr
open Go.Proofs.YtfiadgdinhmgbaaDoor
theorem alone_none {k : Int} {b : List UInt8} {l : List K} (h : kindOf k = none) : alone (.mk k b l) = false := by
 unfold kindOf at h
 split at h
 ·cases h
 ·split at h
  ·cases h
  ·split at h
   ·cases h
   ·split at h
    ·cases h
    ·next h4 h3 h2 h1 => simp [alone, h1, h2, h3, h4]
theorem named_nil (b : Option (List UInt8)) : named b [] = true := rfl
theorem alone_some {k : Int} {b : List UInt8} {l : List K} {bd : Bd} (h : kindOf k = some bd) :
  alone (.mk k b l) = (decide (bd.1 ≤ (b.length : Int)) && (decide ((b.length : Int) ≤ bd.2.1) && (decide (l.length ≤ 200) && ((bd.2.2 || l.isEmpty) && named none l)))) := by
 unfold kindOf at h
 rw [Bool.eq_iff_iff]
 split at h
 ·next h4 =>
  obtain rfl := Option.some.inj h
  subst h4
  simp [alone, and_assoc]
 ·split at h
  ·next h4 h3 =>
   obtain rfl := Option.some.inj h
   subst h3
   cases l with
   | nil => simp [alone, named_nil]; omega
   | cons x l => simp [alone]
  ·split at h
   ·next h4 h3 h2 =>
    obtain rfl := Option.some.inj h
    subst h2
    cases l with
    | nil => simp [alone, named_nil]; omega
    | cons x l => simp [alone]
   ·split at h
    ·next h4 h3 h2 h1 =>
     obtain rfl := Option.some.inj h
     subst h1
     cases l with
     | nil => simp [alone, named_nil]; omega
     | cons x l => simp [alone]
    ·cases h
theorem look_alone {t : T} {n d : Nat} (h : alone t = false) : lookB t n d = false := by
 obtain ⟨k, b, l⟩ := t
 simp [lookB, ok, h]
theorem look_nodes {t : T} {n d : Nat} (h : 200 < n + 1) : lookB t n d = false := by
 have := count_pos t
 have h1 : ¬ n + count t ≤ 200 := by omega
 simp [lookB, h1]
theorem look_deep {t : T} {n d : Nat} (h : 8 < d) : lookB t n d = false := by
 have := deep_pos t
 have h1 : ¬ d + deep t ≤ 9 := by omega
 simp [lookB, h1]
theorem look_parts {t : T} {n d : Nat} (h : lookB t n d = true) : ok t = true ∧ n + count t ≤ 200 ∧ d + deep t ≤ 9 := by
 simp only [lookB, Bool.and_eq_true, decide_eq_true_eq] at h
 exact ⟨h.1.1, h.1.2, h.2⟩
theorem countL_snoc {l : List K} {k : Nat} {x : K} (h : l[k]? = some x) : countL (l.take (k + 1)) = countL (l.take k) + count x.2 := by
 obtain ⟨n, t⟩ := x
 rw [take_succ' h, countL_append]
 simp [countL]
theorem deepL_snoc {l : List K} {k : Nat} {x : K} (h : l[k]? = some x) : deepL (l.take (k + 1)) = max (deepL (l.take k)) (deep x.2) := by
 obtain ⟨n, t⟩ := x
 rw [take_succ' h, deepL_append]
 simp [deepL]
theorem okL_snoc {l : List K} {k : Nat} {x : K} (h : l[k]? = some x) : okL (l.take (k + 1)) = (okL (l.take k) && ok x.2) := by
 obtain ⟨n, t⟩ := x
 rw [take_succ' h, okL_append]
 simp [okL]
end Go.Tr
namespace Go.Proofs.YtfiadgdinhmgbaaDoor
open Go.RowKit Pl Go.Agg Go.Tr Go.Mp
def lkC (gm n d : Nat) : Array Value := #[.map (some gm), .int .i64 (n : Int), .int .i64 (d : Int)]
theorem lk_info (gm n d : Nat) : (Tryd.prog.info? 76).map (·.size) = some (lkC gm n d).size := by kernel_rfl
theorem lk_max (gm n d e : Nat) : (lkC gm n d).setIfInBounds 2 (.int .i64 (max (d : Int) (e : Int))) = lkC gm n (max d e) := by
 have : max (d : Int) (e : Int) = ((max d e : Nat) : Int) := by omega
 rw [this]; rfl
structure LkL (w : World) (g gm n d : Nat) : Prop where
 known : LoadsL Tryd.prog w 74 (some ⟨g, 0, none⟩) (.map (some gm))
 nodes : LoadsL Tryd.prog w 3 (some ⟨g, 1, none⟩) (.int .i64 (n : Int))
 deep : LoadsL Tryd.prog w 3 (some ⟨g, 2, none⟩) (.int .i64 (d : Int))
theorem LkL.of_blk {w : World} {g gm n d : Nat} (h : Blk w g 76 (lkC gm n d)) : LkL w g gm n d :=
 ⟨h.one 0 rfl kinds_under rfl, h.one 1 rfl Tryd.underlying3 rfl, h.one 2 rfl Tryd.underlying3 rfl⟩
structure BdL (w : World) (g : Nat) (x : Bd) : Prop where
 least : LoadsL Tryd.prog w 3 (some ⟨g, 0, none⟩) (.int .i64 x.1)
 most : LoadsL Tryd.prog w 3 (some ⟨g, 1, none⟩) (.int .i64 x.2.1)
 kids : LoadsL Tryd.prog w 4 (some ⟨g, 2, none⟩) (.bool x.2.2)
theorem BdL.of_blk {w : World} {g : Nat} {x : Bd} (h : Blk w g 124 (bdC x)) : BdL w g x :=
 ⟨h.one 0 rfl Tryd.underlying3 rfl, h.one 1 rfl Tryd.underlying3 rfl, h.one 2 rfl Tryd.underlying4 rfl⟩
theorem bd_zeroV (w : World) : (zeroValue 124).run Tryd.prog w = .ok (bdV (0, 0, false)) w := by kernel_rfl
theorem map_keepO {w w' : World} {g gm : Nat} {m : List (Int × Bd)} (h : MapIs w gm kK bdV m) (ho : Only (· = g) w w') (hn : gm ≠ g) : MapIs w' gm kK bdV m := h.keep (ho.block gm h.lt hn)
theorem map_ne {w : World} {g gm : Nat} {t : TypeId} {cs : Array Value} {m : List (Int × Bd)} (h : MapIs w gm kK bdV m) (hb : Blk w g t cs) : gm ≠ g := by
 rintro rfl
 obtain ⟨es, c, he, _⟩ := h
 unfold Blk at hb
 rw [he] at hb
 injection hb with hb
 cases hb
theorem kid_node {w : World} {g : Nat} {y : KdV} (h : Blk w g 51 (kdC y)) : LoadsL Tryd.prog w 26 (some ⟨g, 1, none⟩) (.agg (ndC y.2)) :=
 h.sub 1 _ (fun j v hj => by
  match j, hj with
  | 0, hj => exact hj
  | 1, hj => exact hj
  | 2, hj => exact hj
  | j + 3, hj => simp [ndC] at hj) nd_under rfl (nd_info y.2)
theorem KdL.ofB {w : World} {g : Nat} {y : KdV} (h : Blk w g 51 (kdC y)) : KdL w ⟨g, 0, none⟩ y :=
 KdL.of_cells h.lt (fun j u hj => by rw [add_plain, Nat.zero_add, h.cell]; exact hj)

set_option maxRecDepth 100000 in
set_option maxHeartbeats 16000000 in
theorem right_any : ∀ (N : Nat) (t : T) (_ : count t ≤ N) (v : Value) (w0 w : World) (gl gm n d dp : Nat) (_ : n ≤ 200) (_ : 1 ≤ d) (_ : d ≤ 9) (_ : NodeAt w0 v t) (_ : Below w0.heap.size w0 w) (_ : w0.heap.size ≤ gl) (_ : Blk w gl 76 (lkC gm n dp)) (_ : MapIs w gm kK bdV kindsM),
  Calls Tryd.prog 77 #[.pointer (some ⟨gl, 0, none⟩), v, .int .i64 (d : Int)] w fun e w' => e = .returned (.bool (lookB t n d)) ∧ Only (· = gl) w w' ∧ (lookB t n d = true → Blk w' gl 76 (lkC gm (n + count t) (max dp (d - 1 + deep t)))) := by
 intro N
 induction N with
 | zero => intro t h; have := count_pos t; omega
 | succ N ih =>
 intro t hc v w0 w gl gm n d dp hn hd1 hd9 hv hx0 hgl hl hm
 obtain ⟨x, rfl, hx⟩ := hv
 obtain ⟨k, b, l⟩ := t
 obtain ⟨hk, hby, ks, hsl, hkv⟩ := hx
 have hkn := hkv.nms
 have hkl := hkv.len
 have hlb := fun W => bytes_len (hby.below hx0) W
 have hlk := fun W => kds_len (hsl.below hx0) W
 rw [hkl] at hlk
 have HGE := Lib.hid (show gl < w.heap.size from hl.lt)
 have HNE := Lib.hid (map_ne hm hl)
 have HX0 := Lib.hid hx0
 have HKV := Lib.hid hkv
 have HSL := Lib.hid hsl
 have HKN := Lib.hid hkn
 have HL := Lib.hid hl
 have HM := Lib.hid hm
 have HK := Lib.hid hk
 have HIH := Lib.hid ih
 have HC := Lib.hid hc
 clear hx0 hkv hby hsl hkn hl hm hk ih hc
 have fin : ∀ w', Only (· = gl) w w' → lookB (.mk k b l) n d = false → Ending.returned (.bool false) = .returned (.bool (lookB (.mk k b l) n d)) ∧ Only (· = gl) w w' ∧ (lookB (.mk k b l) n d = true → Blk w' gl 76 (lkC gm (n + count (.mk k b l)) (max dp (d - 1 + deep (.mk k b l))))) := fun w' h1 h2 => by
  rw [h2]
  exact ⟨rfl, h1, fun h => by cases h⟩
 have FIN := Lib.hid fin
 clear fin
 go_enter Tryd.func77, Tryd.ntmps77
 go_wp2_with (first | (refine wpList_box rfl 26 _ rfl (ndC x) rfl ?_; intro g4 w1 hb hx hg; have HB1 := Lib.hid hb; have HL1 := Lib.hid (HL.out.below hx); have HM1 := Lib.hid (HM.out.keep (hx.block gm HM.out.lt)); have HO1 := Lib.hid (Only.ofBelow (S := (· = gl)) hx); have HG4 := Lib.hid (show w.heap.size ≤ g4 from hg); have HG4n := Lib.hid (show g4 ≠ gl from fun e => by have := HGE.out; omega); clear hb hx hg) | (with_reducible refine wpList_loadL (LkL.of_blk HL1.out).nodes rfl _ rfl rfl ?_) | (refine wpList_put1 rfl rfl 3 _ _ rfl gl 1 (.int .i64 ((n : Int) + 1)) rfl rfl HL1.out (by show 1 < 3; omega) rfl rfl (by kernel_rfl) (lkC gm (n + 1) dp) (by rfl) ?_; intro w2 hb ho hs; have HL2 := Lib.hid hb; have HB2 := Lib.hid (HB1.out.keepO ho HG4n.out); have HM2 := Lib.hid (map_keepO HM1.out ho HNE.out); have HO2 := Lib.hid (HO1.out.more ho); clear hb ho hs) | (with_reducible refine wpList_loadL (LkL.of_blk HL2.out).deep rfl _ rfl rfl ?_) | (refine wpList_put1 rfl rfl 3 _ _ rfl gl 2 (.int .i64 (max (dp : Int) (d : Int))) rfl rfl HL2.out (by show 2 < 3; omega) rfl rfl (by kernel_rfl) (lkC gm (n + 1) (max dp d)) (lk_max _ _ _ _) ?_; intro w3 hb ho hs; have HL3 := Lib.hid hb; have HB3 := Lib.hid (HB2.out.keepO ho HG4n.out); have HM3 := Lib.hid (map_keepO HM2.out ho HNE.out); have HO3 := Lib.hid (HO2.out.more ho); clear hb ho hs))
 cases hko : kindOf k with
 | none =>
  have HGT := Lib.hid (show mget kindsM x.1 = none by rw [kinds_get, HK.out]; exact hko)
  have HR := Lib.hid (look_alone (n := n) (d := d) (alone_none (b := b) (l := l) hko))
  clear hko
  try simp only [Act.put, List.setIfInBounds_toArray, List.set_cons_succ, List.set_cons_zero]
  obtain ⟨w4, hw4⟩ : ∃ W, W = w3.drew := ⟨_, rfl⟩
  have hd4 : Below w3.heap.size w3 w4 := by rw [hw4]; exact (Below.refl _ _).drew
  have HS4 := Lib.hid (show (fun W => Blk W gl 76 (lkC gm (n + 1) (max dp d)) ∧ Blk W g4 26 (ndC x) ∧ MapIs W gm kK bdV kindsM) w4 from ⟨HL3.out.below hd4, HB3.out.below hd4, HM3.out.keep (hd4.block gm HM3.out.lt)⟩)
  have HO4 := Lib.hid (HO3.out.new hd4)
  refine wp_region_held_drew (S := fun W => Blk W gl 76 (lkC gm (n + 1) (max dp d)) ∧ Blk W g4 26 (ndC x) ∧ MapIs W gm kK bdV kindsM) (by kernel_rfl) (by rw [← hw4]; exact HS4.out) (fun hHeld => ?_)
  rw [← hw4] at hHeld ⊢
  clear hw4 hd4
  refine held_take 0 (.pointer (some ⟨gl, 0, none⟩)) rfl (by kernel_rfl) (fun _ _ _ h => h) rfl (fun W _ => by kernel_rfl) (by assumption) ?_
  try simp only [Act.put, List.setIfInBounds_toArray, List.set_cons_succ, List.set_cons_zero]
  refine held_take 1 (.pointer (some ⟨gl, 0, none⟩)) rfl (by kernel_rfl) (fun _ _ _ h => h) rfl (fun W _ => by kernel_rfl) (by assumption) ?_
  try simp only [Act.put, List.setIfInBounds_toArray, List.set_cons_succ, List.set_cons_zero]
  refine held_take 2 (.pointer (some ⟨gl, 0, none⟩)) rfl (by kernel_rfl) (fun _ _ _ h => h) rfl (fun W _ => by kernel_rfl) (by assumption) ?_
  try simp only [Act.put, List.setIfInBounds_toArray, List.set_cons_succ, List.set_cons_zero]
  refine held_take 3 (.map (some gm)) rfl (by kernel_rfl) (fun _ _ _ h => h) rfl (fun W hS => exec_loadB rfl rfl (LkL.of_blk hS.1).known.now) (by assumption) ?_
  try simp only [Act.put, List.setIfInBounds_toArray, List.set_cons_succ, List.set_cons_zero]
  refine held_take 4 (.pointer (some ⟨g4, 0, none⟩)) rfl (by kernel_rfl) (fun _ _ _ h => h) rfl (fun W _ => by kernel_rfl) (by assumption) ?_
  try simp only [Act.put, List.setIfInBounds_toArray, List.set_cons_succ, List.set_cons_zero]
  refine held_take 5 (.int .i64 x.1) rfl (by kernel_rfl) (fun _ _ _ h => h) rfl (fun W hS => exec_loadB rfl rfl (NdL.of_blk hS.2.1).kind.now) (by assumption) ?_
  try simp only [Act.put, List.setIfInBounds_toArray, List.set_cons_succ, List.set_cons_zero]
  refine held_take 6 (.tuple #[bdV (0, 0, false), .bool false]) rfl (by kernel_rfl) (fun _ _ _ h => h) rfl (fun W hS => exec_miss rfl kinds_under kind_key bd_zeroV rfl hS.2.2 x.1 rfl HGT.out) (by assumption) ?_
  try simp only [Act.put, List.setIfInBounds_toArray, List.set_cons_succ, List.set_cons_zero]
  refine held_take 7 (.tuple #[bdV (0, 0, false), .bool false]) rfl (by kernel_rfl) (fun _ _ _ h => h) rfl (fun W _ => by kernel_rfl) (by assumption) ?_
  try simp only [Act.put, List.setIfInBounds_toArray, List.set_cons_succ, List.set_cons_zero]
  refine held_take 8 (bdV (0, 0, false)) rfl (by kernel_rfl) (fun _ _ _ h => h) rfl (fun W _ => by kernel_rfl) (by assumption) ?_
  try simp only [Act.put, List.setIfInBounds_toArray, List.set_cons_succ, List.set_cons_zero]
  refine held_take 9 (.bool false) rfl (by kernel_rfl) (fun _ _ _ h => h) rfl (fun W _ => by kernel_rfl) (by assumption) ?_
  try simp only [Act.put, List.setIfInBounds_toArray, List.set_cons_succ, List.set_cons_zero]
  refine held_one 10 rfl (by kernel_rfl) ?_
  refine step_zero rfl 124 rfl (bdC (0, 0, false)) bd_zero ?_
  intro g7 w5 hb hx hg
  have HBD5 := Lib.hid hb
  have HS5 := Lib.hid (show (fun W => Blk W gl 76 (lkC gm (n + 1) (max dp d)) ∧ Blk W g4 26 (ndC x) ∧ MapIs W gm kK bdV kindsM) w5 from ⟨HS4.out.1.below hx, HS4.out.2.1.below hx, HS4.out.2.2.keep (hx.block gm HS4.out.2.2.lt)⟩)
  have HO5 := Lib.hid (HO4.out.new hx)
  have HG7 := Lib.hid (show g7 ≠ gl ∧ g7 ≠ g4 ∧ w.heap.size ≤ g7 from ⟨fun e => (by have := HS4.out.1.lt; omega), fun e => (by have := HS4.out.2.1.lt; omega), Nat.le_trans HO4.out.size hg⟩)
  clear hb hx hg
  refine ⟨HS5.out, ?_⟩
  try simp only [Act.put, List.setIfInBounds_toArray, List.set_cons_succ, List.set_cons_zero]
  refine held_one 11 rfl (by kernel_rfl) ?_
  refine step_put rfl rfl 124 _ _ rfl g7 (bdC (0, 0, false)) (bdC (0, 0, false)) rfl rfl HBD5.out (bd_info _) rfl (bd_one _) ?_
  intro w6 hb hx hs hk
  have ho := Only.of_eq (S := (· = g7)) hx hs hk rfl
  have HBD6 := Lib.hid hb
  have HS6 := Lib.hid (show (fun W => Blk W gl 76 (lkC gm (n + 1) (max dp d)) ∧ Blk W g4 26 (ndC x) ∧ MapIs W gm kK bdV kindsM) w6 from ⟨HS5.out.1.keepO ho (fun e => HG7.out.1 e.symm), HS5.out.2.1.keepO ho (fun e => HG7.out.2.1 e.symm), HS5.out.2.2.keep (ho.block gm HS5.out.2.2.lt (map_ne HS5.out.2.2 HBD5.out))⟩)
  have HO6 := Lib.hid (show Only (· = gl) w w6 from HO5.out.trans (T := (· = g7)) ho (fun i hi h => by have := HG7.out.2.2; subst h; omega))
  clear hb hx hs hk ho
  refine ⟨HS6.out, ?_⟩
  try simp only [Act.put, List.setIfInBounds_toArray, List.set_cons_succ, List.set_cons_zero]
  refine held_one 12 rfl (by kernel_rfl) ?_
  refine step_val rfl (v := .bool false) (w' := w6) (by kernel_rfl) ?_
  refine ⟨HS6.out, ?_⟩
  try simp only [Act.put, List.setIfInBounds_toArray, List.set_cons_succ, List.set_cons_zero]
  refine held_end (by kernel_rfl) ?_
  go_wp2_with fail
  go_ret
  exact FIN.out _ HO6.out HR.out
 | some bd =>
  have HGT := Lib.hid (show mget kindsM x.1 = some bd by rw [kinds_get, HK.out]; exact hko)
  have HAL := Lib.hid (alone_some (b := b) (l := l) hko)
  clear hko
  try simp only [Act.put, List.setIfInBounds_toArray, List.set_cons_succ, List.set_cons_zero]
  obtain ⟨w4, hw4⟩ : ∃ W, W = w3.drew := ⟨_, rfl⟩
  have hd4 : Below w3.heap.size w3 w4 := by rw [hw4]; exact (Below.refl _ _).drew
  have HS4 := Lib.hid (show (fun W => Blk W gl 76 (lkC gm (n + 1) (max dp d)) ∧ Blk W g4 26 (ndC x) ∧ MapIs W gm kK bdV kindsM) w4 from ⟨HL3.out.below hd4, HB3.out.below hd4, HM3.out.keep (hd4.block gm HM3.out.lt)⟩)
  have HO4 := Lib.hid (HO3.out.new hd4)
  refine wp_region_held_drew (S := fun W => Blk W gl 76 (lkC gm (n + 1) (max dp d)) ∧ Blk W g4 26 (ndC x) ∧ MapIs W gm kK bdV kindsM) (by kernel_rfl) (by rw [← hw4]; exact HS4.out) (fun hHeld => ?_)
  rw [← hw4] at hHeld ⊢
  clear hw4 hd4
  refine held_take 0 (.pointer (some ⟨gl, 0, none⟩)) rfl (by kernel_rfl) (fun _ _ _ h => h) rfl (fun W _ => by kernel_rfl) (by assumption) ?_
  try simp only [Act.put, List.setIfInBounds_toArray, List.set_cons_succ, List.set_cons_zero]
  refine held_take 1 (.pointer (some ⟨gl, 0, none⟩)) rfl (by kernel_rfl) (fun _ _ _ h => h) rfl (fun W _ => by kernel_rfl) (by assumption) ?_
  try simp only [Act.put, List.setIfInBounds_toArray, List.set_cons_succ, List.set_cons_zero]
  refine held_take 2 (.pointer (some ⟨gl, 0, none⟩)) rfl (by kernel_rfl) (fun _ _ _ h => h) rfl (fun W _ => by kernel_rfl) (by assumption) ?_
  try simp only [Act.put, List.setIfInBounds_toArray, List.set_cons_succ, List.set_cons_zero]
  refine held_take 3 (.map (some gm)) rfl (by kernel_rfl) (fun _ _ _ h => h) rfl (fun W hS => exec_loadB rfl rfl (LkL.of_blk hS.1).known.now) (by assumption) ?_
  try simp only [Act.put, List.setIfInBounds_toArray, List.set_cons_succ, List.set_cons_zero]
  refine held_take 4 (.pointer (some ⟨g4, 0, none⟩)) rfl (by kernel_rfl) (fun _ _ _ h => h) rfl (fun W _ => by kernel_rfl) (by assumption) ?_
  try simp only [Act.put, List.setIfInBounds_toArray, List.set_cons_succ, List.set_cons_zero]
  refine held_take 5 (.int .i64 x.1) rfl (by kernel_rfl) (fun _ _ _ h => h) rfl (fun W hS => exec_loadB rfl rfl (NdL.of_blk hS.2.1).kind.now) (by assumption) ?_
  try simp only [Act.put, List.setIfInBounds_toArray, List.set_cons_succ, List.set_cons_zero]
  refine held_take 6 (.tuple #[bdV bd, .bool true]) rfl (by kernel_rfl) (fun _ _ _ h => h) rfl (fun W hS => exec_hit rfl kinds_under kind_key bd_zeroV rfl hS.2.2 x.1 rfl bd HGT.out) (by assumption) ?_
  try simp only [Act.put, List.setIfInBounds_toArray, List.set_cons_succ, List.set_cons_zero]
  refine held_take 7 (.tuple #[bdV bd, .bool true]) rfl (by kernel_rfl) (fun _ _ _ h => h) rfl (fun W _ => by kernel_rfl) (by assumption) ?_
  try simp only [Act.put, List.setIfInBounds_toArray, List.set_cons_succ, List.set_cons_zero]
  refine held_take 8 (bdV bd) rfl (by kernel_rfl) (fun _ _ _ h => h) rfl (fun W _ => by kernel_rfl) (by assumption) ?_
  try simp only [Act.put, List.setIfInBounds_toArray, List.set_cons_succ, List.set_cons_zero]
  refine held_take 9 (.bool true) rfl (by kernel_rfl) (fun _ _ _ h => h) rfl (fun W _ => by kernel_rfl) (by assumption) ?_
  try simp only [Act.put, List.setIfInBounds_toArray, List.set_cons_succ, List.set_cons_zero]
  refine held_one 10 rfl (by kernel_rfl) ?_
  refine step_zero rfl 124 rfl (bdC (0, 0, false)) bd_zero ?_
  intro g7 w5 hb hx hg
  have HBD5 := Lib.hid hb
  have HS5 := Lib.hid (show (fun W => Blk W gl 76 (lkC gm (n + 1) (max dp d)) ∧ Blk W g4 26 (ndC x) ∧ MapIs W gm kK bdV kindsM) w5 from ⟨HS4.out.1.below hx, HS4.out.2.1.below hx, HS4.out.2.2.keep (hx.block gm HS4.out.2.2.lt)⟩)
  have HO5 := Lib.hid (HO4.out.new hx)
  have HG7 := Lib.hid (show g7 ≠ gl ∧ g7 ≠ g4 ∧ w.heap.size ≤ g7 from ⟨fun e => (by have := HS4.out.1.lt; omega), fun e => (by have := HS4.out.2.1.lt; omega), Nat.le_trans HO4.out.size hg⟩)
  clear hb hx hg
  refine ⟨HS5.out, ?_⟩
  try simp only [Act.put, List.setIfInBounds_toArray, List.set_cons_succ, List.set_cons_zero]
  refine held_one 11 rfl (by kernel_rfl) ?_
  refine step_put rfl rfl 124 _ _ rfl g7 (bdC bd) (bdC (0, 0, false)) rfl rfl HBD5.out (bd_info _) rfl (bd_one _) ?_
  intro w6 hb hx hs hk
  have ho := Only.of_eq (S := (· = g7)) hx hs hk rfl
  have HBD6 := Lib.hid hb
  have HS6 := Lib.hid (show (fun W => Blk W gl 76 (lkC gm (n + 1) (max dp d)) ∧ Blk W g4 26 (ndC x) ∧ MapIs W gm kK bdV kindsM) w6 from ⟨HS5.out.1.keepO ho (fun e => HG7.out.1 e.symm), HS5.out.2.1.keepO ho (fun e => HG7.out.2.1 e.symm), HS5.out.2.2.keep (ho.block gm HS5.out.2.2.lt (map_ne HS5.out.2.2 HBD5.out))⟩)
  have HO6 := Lib.hid (show Only (· = gl) w w6 from HO5.out.trans (T := (· = g7)) ho (fun i hi h => by have := HG7.out.2.2; subst h; omega))
  clear hb hx hs hk ho
  refine ⟨HS6.out, ?_⟩
  try simp only [Act.put, List.setIfInBounds_toArray, List.set_cons_succ, List.set_cons_zero]
  refine held_one 12 rfl (by kernel_rfl) ?_
  refine step_val rfl (v := .bool true) (w' := w6) (by kernel_rfl) ?_
  refine ⟨HS6.out, ?_⟩
  try simp only [Act.put, List.setIfInBounds_toArray, List.set_cons_succ, List.set_cons_zero]
  refine held_end (by kernel_rfl) ?_
  by_cases c1 : 200 < n + 1
  ·have dc1 : decide (200 < (n : Int) + 1) = true := by simp; omega
   have HR := Lib.hid (look_nodes (t := .mk k b l) (d := d) c1)
   go_wp2_with (first | (with_reducible refine wpList_loadL (LkL.of_blk HS6.out.1).nodes rfl _ rfl rfl ?_) | (with_reducible refine wpList_loadL (NdL.of_blk HS6.out.2.1).bytes rfl _ rfl rfl ?_) | (with_reducible refine wpList_loadL (NdL.of_blk HS6.out.2.1).kids rfl _ rfl rfl ?_) | (with_reducible refine wpList_loadL (BdL.of_blk HBD6.out).least rfl _ rfl rfl ?_) | (with_reducible refine wpList_loadL (BdL.of_blk HBD6.out).most rfl _ rfl rfl ?_) | (with_reducible refine wpList_loadL (BdL.of_blk HBD6.out).kids rfl _ rfl rfl ?_))
   go_ret
   exact FIN.out _ HO6.out HR.out
  ·have dc1 : decide (200 < (n : Int) + 1) = false := by simp; omega
   by_cases c2 : 8 < d
   ·have dc2 : decide (8 < (d : Int)) = true := by simp; omega
    have HR := Lib.hid (look_deep (t := .mk k b l) (n := n) c2)
    go_wp2_with (first | (with_reducible refine wpList_loadL (LkL.of_blk HS6.out.1).nodes rfl _ rfl rfl ?_) | (with_reducible refine wpList_loadL (NdL.of_blk HS6.out.2.1).bytes rfl _ rfl rfl ?_) | (with_reducible refine wpList_loadL (NdL.of_blk HS6.out.2.1).kids rfl _ rfl rfl ?_) | (with_reducible refine wpList_loadL (BdL.of_blk HBD6.out).least rfl _ rfl rfl ?_) | (with_reducible refine wpList_loadL (BdL.of_blk HBD6.out).most rfl _ rfl rfl ?_) | (with_reducible refine wpList_loadL (BdL.of_blk HBD6.out).kids rfl _ rfl rfl ?_))
    go_ret
    exact FIN.out _ HO6.out HR.out
   ·have dc2 : decide (8 < (d : Int)) = false := by simp; omega
    by_cases c3 : (b.length : Int) < bd.1
    ·have dc3 : decide ((b.length : Int) < bd.1) = true := by simpa using c3
     have HR := Lib.hid (look_alone (n := n) (d := d) (by rw [HAL.out, show decide (bd.1 ≤ (b.length : Int)) = false by simp; omega]; rfl))
     go_wp2_with (first | (with_reducible refine wpList_loadL (LkL.of_blk HS6.out.1).nodes rfl _ rfl rfl ?_) | (with_reducible refine wpList_loadL (NdL.of_blk HS6.out.2.1).bytes rfl _ rfl rfl ?_) | (with_reducible refine wpList_loadL (NdL.of_blk HS6.out.2.1).kids rfl _ rfl rfl ?_) | (with_reducible refine wpList_loadL (BdL.of_blk HBD6.out).least rfl _ rfl rfl ?_) | (with_reducible refine wpList_loadL (BdL.of_blk HBD6.out).most rfl _ rfl rfl ?_) | (with_reducible refine wpList_loadL (BdL.of_blk HBD6.out).kids rfl _ rfl rfl ?_))
     go_ret
     exact FIN.out _ HO6.out HR.out
    ·have dc3 : decide ((b.length : Int) < bd.1) = false := by simpa using c3
     by_cases c4 : bd.2.1 < (b.length : Int)
     ·have dc4 : decide (bd.2.1 < (b.length : Int)) = true := by simpa using c4
      have HR := Lib.hid (look_alone (n := n) (d := d) (by rw [HAL.out, show decide ((b.length : Int) ≤ bd.2.1) = false by simp; omega, Bool.false_and, Bool.and_false]))
      go_wp2_with (first | (with_reducible refine wpList_loadL (LkL.of_blk HS6.out.1).nodes rfl _ rfl rfl ?_) | (with_reducible refine wpList_loadL (NdL.of_blk HS6.out.2.1).bytes rfl _ rfl rfl ?_) | (with_reducible refine wpList_loadL (NdL.of_blk HS6.out.2.1).kids rfl _ rfl rfl ?_) | (with_reducible refine wpList_loadL (BdL.of_blk HBD6.out).least rfl _ rfl rfl ?_) | (with_reducible refine wpList_loadL (BdL.of_blk HBD6.out).most rfl _ rfl rfl ?_) | (with_reducible refine wpList_loadL (BdL.of_blk HBD6.out).kids rfl _ rfl rfl ?_))
      go_ret
      exact FIN.out _ HO6.out HR.out
     ·have dc4 : decide (bd.2.1 < (b.length : Int)) = false := by simpa using c4
      by_cases c5 : 200 < l.length
      ·have dc5 : decide (200 < (l.length : Int)) = true := by simp; omega
       have HR := Lib.hid (look_alone (n := n) (d := d) (by rw [HAL.out, show decide (l.length ≤ 200) = false by simp; omega, Bool.false_and, Bool.and_false, Bool.and_false]))
       go_wp2_with (first | (with_reducible refine wpList_loadL (LkL.of_blk HS6.out.1).nodes rfl _ rfl rfl ?_) | (with_reducible refine wpList_loadL (NdL.of_blk HS6.out.2.1).bytes rfl _ rfl rfl ?_) | (with_reducible refine wpList_loadL (NdL.of_blk HS6.out.2.1).kids rfl _ rfl rfl ?_) | (with_reducible refine wpList_loadL (BdL.of_blk HBD6.out).least rfl _ rfl rfl ?_) | (with_reducible refine wpList_loadL (BdL.of_blk HBD6.out).most rfl _ rfl rfl ?_) | (with_reducible refine wpList_loadL (BdL.of_blk HBD6.out).kids rfl _ rfl rfl ?_))
       go_ret
       exact FIN.out _ HO6.out HR.out
      ·have dc5 : decide (200 < (l.length : Int)) = false := by simp; omega
       by_cases c6 : bd.2.2 = false ∧ 0 < l.length
       ·have c6a := c6.1
        have dc6 : decide (0 < (l.length : Int)) = true := by have := c6.2; simp; omega
        have HR := Lib.hid (look_alone (n := n) (d := d) (by rw [HAL.out, show (bd.2.2 || l.isEmpty) = false by rw [c6.1]; have := c6.2; cases l <;> simp_all, Bool.false_and, Bool.and_false, Bool.and_false, Bool.and_false]))
        go_wp2_with (first | (with_reducible refine wpList_loadL (LkL.of_blk HS6.out.1).nodes rfl _ rfl rfl ?_) | (with_reducible refine wpList_loadL (NdL.of_blk HS6.out.2.1).bytes rfl _ rfl rfl ?_) | (with_reducible refine wpList_loadL (NdL.of_blk HS6.out.2.1).kids rfl _ rfl rfl ?_) | (with_reducible refine wpList_loadL (BdL.of_blk HBD6.out).least rfl _ rfl rfl ?_) | (with_reducible refine wpList_loadL (BdL.of_blk HBD6.out).most rfl _ rfl rfl ?_) | (with_reducible refine wpList_loadL (BdL.of_blk HBD6.out).kids rfl _ rfl rfl ?_))
        go_ret
        exact FIN.out _ HO6.out HR.out
       ·have HC6 := Lib.hid (show (bd.2.2 || l.isEmpty) = true by
         cases h1 : bd.2.2 with
         | true => rfl
         | false => cases l with | nil => rfl | cons y l => exact absurd ⟨h1, by simp⟩ c6)
        have HW6 := Lib.hid (show Below w0.heap.size w w6 from HO6.out.below (by have := HX0.out.size; exact this) (fun i hi => by subst hi; exact hgl))
        have HX6 := Lib.hid (HX0.out.trans HW6.out)
        obtain ⟨nb, hnb⟩ : ∃ nb, named none l = nb := ⟨_, rfl⟩
        have HNC := Lib.hid (show Calls Tryd.prog 94 #[x.2.2.1] w6 fun e w' => e = .returned (.bool nb) ∧ Below w6.heap.size w6 w' by have := named_any x.2.2.1 ks l (by omega) w6 (HSL.out.below HX6.out) HKN.out; rwa [hnb] at this)
        have HNB := Lib.hid hnb
        clear hnb
        have hkb : bd.2.2 = true ∨ (bd.2.2 = false ∧ decide (0 < (l.length : Int)) = false ∧ decide (0 < l.length) = false) := by
         have := HC6.out
         cases h1 : bd.2.2 with
         | true => exact .inl rfl
         | false =>
          rw [h1, Bool.false_or] at this
          refine .inr ⟨rfl, ?_⟩
          cases l with
          | nil => exact ⟨rfl, rfl⟩
          | cons y l => simp at this
        have hlt0 := HW6.out.size
        rcases hkb with hkb | ⟨hkb, hl0, hl1⟩
        ·go_wp2_with (first | (with_reducible refine wpList_loadL (LkL.of_blk HS6.out.1).nodes rfl _ rfl rfl ?_) | (with_reducible refine wpList_loadL (NdL.of_blk HS6.out.2.1).bytes rfl _ rfl rfl ?_) | (with_reducible refine wpList_loadL (NdL.of_blk HS6.out.2.1).kids rfl _ rfl rfl ?_) | (with_reducible refine wpList_loadL (BdL.of_blk HBD6.out).least rfl _ rfl rfl ?_) | (with_reducible refine wpList_loadL (BdL.of_blk HBD6.out).most rfl _ rfl rfl ?_) | (with_reducible refine wpList_loadL (BdL.of_blk HBD6.out).kids rfl _ rfl rfl ?_))
         refine HNC.out.mono ?_
         rintro e w7 ⟨rfl, hx7⟩
         have HO7 := Lib.hid (HO6.out.new hx7)
         have HS7 := Lib.hid (And.intro (HS6.out.1.below hx7) (And.intro (HS6.out.2.1.below hx7) (HS6.out.2.2.keep (hx7.block gm HS6.out.2.2.lt))))
         clear hx7
         cases nb with
         | false =>
          have HR := Lib.hid (look_alone (n := n) (d := d) (by rw [HAL.out, HNB.out, Bool.and_false, Bool.and_false, Bool.and_false, Bool.and_false]))
          go_wp2_with fail
          go_ret
          exact FIN.out _ HO7.out HR.out
         | true =>
          have HAT := Lib.hid (show alone (.mk k b l) = true by
           rw [HAL.out, HC6.out, HNB.out, show decide (bd.1 ≤ (b.length : Int)) = true by simp; omega, show decide ((b.length : Int) ≤ bd.2.1) = true by simp; omega, show decide (l.length ≤ 200) = true by simp; omega]; rfl)
          go_wp2_with (first | (with_reducible refine wpList_loadL (NdL.of_blk HS7.out.2.1).kids rfl _ rfl rfl ?_))
          go_loopw [81] (fun i wr => ∃ q : Nat, q ≤ l.length ∧ i = .int .i64 (q : Int) ∧ okL (l.take q) = true ∧ n + 1 + countL (l.take q) ≤ 200 ∧ d + deepL (l.take q) ≤ 8 ∧ Blk wr gl 76 (lkC gm (n + 1 + countL (l.take q)) (max (max dp d) (d + deepL (l.take q)))) ∧ MapIs wr gm kK bdV kindsM ∧ Only (· = gl) w wr) (fun i _ => l.length - (intOf i).toNat)
          case atStart => exact ⟨0, by omega, rfl, rfl, by simp [countL] <;> omega, by simp [deepL] <;> omega, by have h := HS7.out.1; rw [show max (max dp d) (d + deepL (l.take 0)) = max dp d by simp [deepL] <;> omega]; simpa [countL] using h, HS7.out.2.2, HO7.out⟩
          case round =>
           obtain ⟨w8, rfl⟩ : ∃ w8 : World, w8 = wr := ⟨_, rfl⟩
           obtain ⟨q, hq, rfl, hok, hnc, hdd, hbl, hmp, ho8⟩ := hrel
           have HOK := Lib.hid hok
           have HL := Lib.hid hbl
           have HM := Lib.hid hmp
           have HO := Lib.hid ho8
           have HWr := Lib.hid (show Below w0.heap.size w w8 from HO.out.below (by have := HX0.out.size; exact this) (fun i hi => by subst hi; exact hgl))
           have HXr := Lib.hid (HX0.out.trans HWr.out)
           clear hok hbl hmp ho8
           by_cases hlt : q < l.length
           ·have hlq : decide ((q : Int) < (l.length : Int)) = true := by simp; omega
            obtain ⟨z, hzk⟩ : ∃ z, l[q]? = some z := ⟨_, List.getElem?_eq_getElem hlt⟩
            obtain ⟨y, hyk, _, hyn⟩ := HKV.out.at_ q z hzk
            obtain ⟨p, hadr, hle⟩ := kid_at (HSL.out.below HXr.out) q y hyk
            have HE := Lib.hid hle.all
            have HZ := Lib.hid hzk
            have HYN := Lib.hid hyn
            have hcz : count z.2 ≤ N := by
             have h1 := countL_mem (List.mem_of_getElem? hzk)
             have h2 := HC.out
             simp only [count] at h2
             omega
            clear hle hyk hyn hzk
            go_wp2_with (first | (with_reducible refine wpList_loadL HE.out rfl _ rfl rfl ?_) | (refine wpList_new rfl rfl rfl 51 10 84 rfl rfl rfl (by decide) (kdC kdZ) (kdC y) kd_zero rfl (kd_info y) (kdC_one y) rfl (by first | (simp; done) | simp [Act.put]) ?_; intro g9 wa hb hx hg; have HY := Lib.hid (kid_node hb); have HLa := Lib.hid (HL.out.below hx); have HMa := Lib.hid (HM.out.keep (hx.block gm HM.out.lt)); have HOa := Lib.hid (HO.out.new hx); clear hb hx hg) | (with_reducible refine wpList_loadL HY.out rfl _ rfl rfl ?_))
            obtain ⟨lb, hlb2⟩ : ∃ lb, lookB z.2 (n + 1 + countL (l.take q)) (d + 1) = lb := ⟨_, rfl⟩
            have hcall := HIH.out z.2 hcz (.agg (ndC y.2)) w0 wa gl gm (n + 1 + countL (l.take q)) (d + 1) _ (by omega) (by omega) (by omega) ⟨y.2, rfl, HYN.out⟩ (HX0.out.trans (HOa.out.below (by have := HX0.out.size; exact this) (fun i hi => by subst hi; exact hgl))) hgl HLa.out HMa.out
            rw [hlb2, show ((d + 1 : Nat) : Int) = (d : Int) + 1 by omega] at hcall
            have HLB := Lib.hid hlb2
            clear hlb2 HE hadr
            refine hcall.mono ?_
            rintro e wb ⟨rfl, hob, hbb⟩
            have HOb := Lib.hid (HOa.out.more hob)
            have HMb := Lib.hid (map_keepO HMa.out hob HNE.out)
            have HBb := Lib.hid hbb
            clear hcall hob hbb
            cases lb with
            | false =>
             have HR := Lib.hid (look_kid (t := .mk k b l) (n := n) (d := d) HZ.out HLB.out)
             go_wp2_with fail
             go_ret
             exact FIN.out _ HOb.out HR.out
            | true =>
             have HPA := Lib.hid (look_parts HLB.out)
             go_wp2_with fail
             go_roundw
             case rel => exact ⟨q + 1, by omega, by go_num, by rw [okL_snoc HZ.out, HOK.out, HPA.out.1]; rfl, by rw [countL_snoc HZ.out]; have := HPA.out.2.1; omega, by rw [deepL_snoc HZ.out]; have := HPA.out.2.2; omega, by
              have h := HBb.out trivial
              rw [countL_snoc HZ.out, deepL_snoc HZ.out]
              rw [show n + 1 + (countL (l.take q) + count z.2) = n + 1 + countL (l.take q) + count z.2 by omega, show max (max dp d) (d + max (deepL (l.take q)) (deep z.2)) = max (max (max dp d) (d + deepL (l.take q))) (d + 1 - 1 + deep z.2) by omega]
              exact h, HMb.out, HOb.out⟩
             case measure => simp [intOf]; omega
           ·obtain rfl : q = l.length := by omega
            have hlq : decide (((l.length : Nat) : Int) < ((l.length : Nat) : Int)) = false := by simp
            have hok2 := HOK.out
            have hbl2 := HL.out
            rw [List.take_length] at hnc hdd hok2 hbl2
            have HBL := Lib.hid (show Blk w8 gl 76 (lkC gm (n + count (.mk k b l)) (max dp (d - 1 + deep (.mk k b l)))) by
             have e1 : n + count (.mk k b l) = n + 1 + countL l := by simp only [count]; omega
             have e2 : max dp (d - 1 + deep (.mk k b l)) = max (max dp d) (d + deepL l) := by simp only [deep]; omega
             rw [e1, e2]; exact hbl2)
            have HR := Lib.hid (look_all (t := .mk k b l) (n := n) (d := d) HAT.out hnc (by show d + deepL l + 1 ≤ 9; omega) hok2)
            clear hok2 hbl2
            go_wp2_with fail
            go_ret
            exact ⟨ret_bool HR.out.symm, HO.out, fun _ => HBL.out⟩
        ·go_wp2_with (first | (with_reducible refine wpList_loadL (LkL.of_blk HS6.out.1).nodes rfl _ rfl rfl ?_) | (with_reducible refine wpList_loadL (NdL.of_blk HS6.out.2.1).bytes rfl _ rfl rfl ?_) | (with_reducible refine wpList_loadL (NdL.of_blk HS6.out.2.1).kids rfl _ rfl rfl ?_) | (with_reducible refine wpList_loadL (BdL.of_blk HBD6.out).least rfl _ rfl rfl ?_) | (with_reducible refine wpList_loadL (BdL.of_blk HBD6.out).most rfl _ rfl rfl ?_) | (with_reducible refine wpList_loadL (BdL.of_blk HBD6.out).kids rfl _ rfl rfl ?_))
         refine HNC.out.mono ?_
         rintro e w7 ⟨rfl, hx7⟩
         have HO7 := Lib.hid (HO6.out.new hx7)
         have HS7 := Lib.hid (And.intro (HS6.out.1.below hx7) (And.intro (HS6.out.2.1.below hx7) (HS6.out.2.2.keep (hx7.block gm HS6.out.2.2.lt))))
         clear hx7
         cases nb with
         | false =>
          have HR := Lib.hid (look_alone (n := n) (d := d) (by rw [HAL.out, HNB.out, Bool.and_false, Bool.and_false, Bool.and_false, Bool.and_false]))
          go_wp2_with fail
          go_ret
          exact FIN.out _ HO7.out HR.out
         | true =>
          have HAT := Lib.hid (show alone (.mk k b l) = true by
           rw [HAL.out, HC6.out, HNB.out, show decide (bd.1 ≤ (b.length : Int)) = true by simp; omega, show decide ((b.length : Int) ≤ bd.2.1) = true by simp; omega, show decide (l.length ≤ 200) = true by simp; omega]; rfl)
          go_wp2_with (first | (with_reducible refine wpList_loadL (NdL.of_blk HS7.out.2.1).kids rfl _ rfl rfl ?_))
          go_loopw [81] (fun i wr => ∃ q : Nat, q ≤ l.length ∧ i = .int .i64 (q : Int) ∧ okL (l.take q) = true ∧ n + 1 + countL (l.take q) ≤ 200 ∧ d + deepL (l.take q) ≤ 8 ∧ Blk wr gl 76 (lkC gm (n + 1 + countL (l.take q)) (max (max dp d) (d + deepL (l.take q)))) ∧ MapIs wr gm kK bdV kindsM ∧ Only (· = gl) w wr) (fun i _ => l.length - (intOf i).toNat)
          case atStart => exact ⟨0, by omega, rfl, rfl, by simp [countL] <;> omega, by simp [deepL] <;> omega, by have h := HS7.out.1; rw [show max (max dp d) (d + deepL (l.take 0)) = max dp d by simp [deepL] <;> omega]; simpa [countL] using h, HS7.out.2.2, HO7.out⟩
          case round =>
           obtain ⟨w8, rfl⟩ : ∃ w8 : World, w8 = wr := ⟨_, rfl⟩
           obtain ⟨q, hq, rfl, hok, hnc, hdd, hbl, hmp, ho8⟩ := hrel
           have HOK := Lib.hid hok
           have HL := Lib.hid hbl
           have HM := Lib.hid hmp
           have HO := Lib.hid ho8
           have HWr := Lib.hid (show Below w0.heap.size w w8 from HO.out.below (by have := HX0.out.size; exact this) (fun i hi => by subst hi; exact hgl))
           have HXr := Lib.hid (HX0.out.trans HWr.out)
           clear hok hbl hmp ho8
           by_cases hlt : q < l.length
           ·have hlq : decide ((q : Int) < (l.length : Int)) = true := by simp; omega
            obtain ⟨z, hzk⟩ : ∃ z, l[q]? = some z := ⟨_, List.getElem?_eq_getElem hlt⟩
            obtain ⟨y, hyk, _, hyn⟩ := HKV.out.at_ q z hzk
            obtain ⟨p, hadr, hle⟩ := kid_at (HSL.out.below HXr.out) q y hyk
            have HE := Lib.hid hle.all
            have HZ := Lib.hid hzk
            have HYN := Lib.hid hyn
            have hcz : count z.2 ≤ N := by
             have h1 := countL_mem (List.mem_of_getElem? hzk)
             have h2 := HC.out
             simp only [count] at h2
             omega
            clear hle hyk hyn hzk
            go_wp2_with (first | (with_reducible refine wpList_loadL HE.out rfl _ rfl rfl ?_) | (refine wpList_new rfl rfl rfl 51 10 84 rfl rfl rfl (by decide) (kdC kdZ) (kdC y) kd_zero rfl (kd_info y) (kdC_one y) rfl (by first | (simp; done) | simp [Act.put]) ?_; intro g9 wa hb hx hg; have HY := Lib.hid (kid_node hb); have HLa := Lib.hid (HL.out.below hx); have HMa := Lib.hid (HM.out.keep (hx.block gm HM.out.lt)); have HOa := Lib.hid (HO.out.new hx); clear hb hx hg) | (with_reducible refine wpList_loadL HY.out rfl _ rfl rfl ?_))
            obtain ⟨lb, hlb2⟩ : ∃ lb, lookB z.2 (n + 1 + countL (l.take q)) (d + 1) = lb := ⟨_, rfl⟩
            have hcall := HIH.out z.2 hcz (.agg (ndC y.2)) w0 wa gl gm (n + 1 + countL (l.take q)) (d + 1) _ (by omega) (by omega) (by omega) ⟨y.2, rfl, HYN.out⟩ (HX0.out.trans (HOa.out.below (by have := HX0.out.size; exact this) (fun i hi => by subst hi; exact hgl))) hgl HLa.out HMa.out
            rw [hlb2, show ((d + 1 : Nat) : Int) = (d : Int) + 1 by omega] at hcall
            have HLB := Lib.hid hlb2
            clear hlb2 HE hadr
            refine hcall.mono ?_
            rintro e wb ⟨rfl, hob, hbb⟩
            have HOb := Lib.hid (HOa.out.more hob)
            have HMb := Lib.hid (map_keepO HMa.out hob HNE.out)
            have HBb := Lib.hid hbb
            clear hcall hob hbb
            cases lb with
            | false =>
             have HR := Lib.hid (look_kid (t := .mk k b l) (n := n) (d := d) HZ.out HLB.out)
             go_wp2_with fail
             go_ret
             exact FIN.out _ HOb.out HR.out
            | true =>
             have HPA := Lib.hid (look_parts HLB.out)
             go_wp2_with fail
             go_roundw
             case rel => exact ⟨q + 1, by omega, by go_num, by rw [okL_snoc HZ.out, HOK.out, HPA.out.1]; rfl, by rw [countL_snoc HZ.out]; have := HPA.out.2.1; omega, by rw [deepL_snoc HZ.out]; have := HPA.out.2.2; omega, by
              have h := HBb.out trivial
              rw [countL_snoc HZ.out, deepL_snoc HZ.out]
              rw [show n + 1 + (countL (l.take q) + count z.2) = n + 1 + countL (l.take q) + count z.2 by omega, show max (max dp d) (d + max (deepL (l.take q)) (deep z.2)) = max (max (max dp d) (d + deepL (l.take q))) (d + 1 - 1 + deep z.2) by omega]
              exact h, HMb.out, HOb.out⟩
             case measure => simp [intOf]; omega
           ·obtain rfl : q = l.length := by omega
            have hlq : decide (((l.length : Nat) : Int) < ((l.length : Nat) : Int)) = false := by simp
            have hok2 := HOK.out
            have hbl2 := HL.out
            rw [List.take_length] at hnc hdd hok2 hbl2
            have HBL := Lib.hid (show Blk w8 gl 76 (lkC gm (n + count (.mk k b l)) (max dp (d - 1 + deep (.mk k b l)))) by
             have e1 : n + count (.mk k b l) = n + 1 + countL l := by simp only [count]; omega
             have e2 : max dp (d - 1 + deep (.mk k b l)) = max (max dp d) (d + deepL l) := by simp only [deep]; omega
             rw [e1, e2]; exact hbl2)
            have HR := Lib.hid (look_all (t := .mk k b l) (n := n) (d := d) HAT.out hnc (by show d + deepL l + 1 ≤ 9; omega) hok2)
            clear hok2 hbl2
            go_wp2_with fail
            go_ret
            exact ⟨ret_bool HR.out.symm, HO.out, fun _ => HBL.out⟩
set_option maxRecDepth 100000 in
set_option maxHeartbeats 4000000 in
theorem looked_any (v : Value) (t : T) (w : World) (hv : NodeAt w v t) :
  Calls Tryd.prog 51 #[v] w fun e w' => ∃ g gm, e = .returned (.tuple #[.pointer (some ⟨g, 0, none⟩), .bool (right t)]) ∧ Below w.heap.size w w' ∧ (right t = true → Blk w' g 76 (lkC gm (count t) (deep t))) := by
 obtain ⟨x, rfl, hx⟩ := hv
 have HN := Lib.hid hx
 clear hx
 have hbl := fun gm W => (by kernel_rfl : (Instr.build 76 #[(0, .map (some gm))]).run Tryd.prog W = .ok (.agg (lkC gm 0 0)) W)
 have HBL := Lib.hid hbl
 clear hbl
 go_enter Tryd.func51, Tryd.ntmps51
 go_wp2_with (first | (refine wpList_box rfl 26 _ rfl (ndC x) rfl ?_; intro g1 w1 hb hx hg; have HB1 := Lib.hid hb; have HX1 := Lib.hid hx; clear hb hx hg))
 refine (kinds_any w1).mono ?_
 rintro e w2 ⟨gm, rfl, hgm, hm, hx⟩
 have HM2 := Lib.hid hm
 have HB2 := Lib.hid (HB1.out.below hx)
 have HX2 := Lib.hid (belowThen HX1.out (Nat.le_refl _) hx)
 clear hm hx hgm
 go_wp2_with (first | (with_reducible refine wpList_build1 76 0 _ rfl rfl (.map (some gm)) rfl (.agg (lkC gm 0 0)) (HBL.out gm) ?_) | (refine wpList_box rfl 76 _ rfl (lkC gm 0 0) rfl ?_; intro g3 w3 hb hx hg; have HL3 := Lib.hid hb; have HM3 := Lib.hid (HM2.out.keep (hx.block gm HM2.out.lt)); have HB3 := Lib.hid (HB2.out.below hx); have HX3 := Lib.hid (belowThen HX2.out (Nat.le_refl _) hx); have HG3 := Lib.hid (Nat.le_trans HX2.out.size hg); clear hb hx hg) | (with_reducible refine wpList_loadL (NdL.of_blk HB3.out).all rfl _ rfl rfl ?_))
 refine (right_any (count t) t (Nat.le_refl _) (.agg (ndC x)) w w3 g3 gm 0 1 0 (by omega) (by omega) (by omega) ⟨x, rfl, HN.out⟩ HX3.out HG3.out HL3.out HM3.out).mono ?_
 rintro e w4 ⟨rfl, ho, hb⟩
 have HX4 := Lib.hid (HX3.out.trans (ho.below HX3.out.size (fun i hi => by subst hi; exact HG3.out)))
 have HB4 := Lib.hid hb
 clear ho hb
 go_wp2_with fail
 go_ret2
 exact ⟨g3, gm, rfl, HX4.out, fun h => by
  have := HB4.out h
  rwa [show 0 + count t = count t by omega, show max 0 (1 - 1 + deep t) = deep t by omega] at this⟩
set_option maxRecDepth 100000 in
set_option maxHeartbeats 4000000 in
theorem tright_any (v : Value) (t : T) (w : World) (hv : NodeAt w v t) :
  Calls Tryd.prog 21 #[v] w fun e w' => e = .returned (.bool (right t)) ∧ Below w.heap.size w w' := by
 obtain ⟨x, rfl, hx⟩ := hv
 have HN := Lib.hid hx
 clear hx
 go_enter Tryd.func21, Tryd.ntmps21
 go_wp2_with (first | (refine wpList_box rfl 26 _ rfl (ndC x) rfl ?_; intro g1 w1 hb hx hg; have HB1 := Lib.hid hb; have HX1 := Lib.hid hx; clear hb hx hg) | (with_reducible refine wpList_loadL (NdL.of_blk HB1.out).all rfl _ rfl rfl ?_))
 refine (looked_any (.agg (ndC x)) t w1 ⟨x, rfl, HN.out.below HX1.out⟩).mono ?_
 rintro e w2 ⟨g, gm, rfl, hx, _⟩
 have HX2 := Lib.hid (belowThen HX1.out (Nat.le_refl _) hx)
 clear hx
 go_wp2_with fail
 go_ret
 exact ⟨rfl, HX2.out⟩
end Go.Proofs.YtfiadgdinhmgbaaDoor
/-! spencekit.SameBytes. -/
namespace Go.Proofs.YtfiadgdinhmgbaaDoor
open Go.RowKit Pl Go.Agg
theorem take_eq_succ {α : Type} {a b : List α} {k : Nat} {x y : α} (hx : a[k]? = some x) (hy : b[k]? = some y) (h : a.take k = b.take k) (hxy : x = y) : a.take (k + 1) = b.take (k + 1) := by
 rw [List.take_add_one, List.take_add_one, hx, hy, h, hxy]
theorem ne_at {α : Type} {a b : List α} {k : Nat} {x y : α} (hx : a[k]? = some x) (hy : b[k]? = some y) (hxy : x ≠ y) : a ≠ b := by
 rintro rfl
 exact hxy (Option.some.inj (hx.symm.trans hy))
theorem i64_nat {a b : Nat} (h : a = b) : Value.int .i64 (a : Int) = .int .i64 (b : Int) := by rw [h]
set_option maxRecDepth 100000 in
set_option maxHeartbeats 1000000 in
theorem sameBytes_any (v u : Value) (a b : List UInt8) (_ha : a.length ≤ 1048576) (hb : b.length ≤ 1048576) (w : World) (he : BytesAt w v a) (hf : BytesAt w u b) :
  Calls Tryd.prog 44 #[v, u] w fun e w' => e = .returned (.bool (decide (a = b))) ∧ Below w.heap.size w w' := by
 have hlv := fun W => bytes_len he W
 have hlu := fun W => bytes_len hf W
 have HE := Lib.hid he
 have HF := Lib.hid hf
 clear he hf
 by_cases hlen : a.length = b.length
 ·have hne : ((a.length : Int) != (b.length : Int)) = false := by simp [hlen]
  have HLEN := Lib.hid hlen
  rw [hlen] at hlv hne
  clear hlen
  go_enter Tryd.func44, Tryd.ntmps44
  go_wp2_with fail
  go_loopw [5] (fun i wr => ∃ k : Nat, k ≤ b.length ∧ i = .int .i64 k ∧ a.take k = b.take k ∧ Below w.heap.size w wr) (fun i _ => b.length - (intOf i).toNat)
  case atStart => exact ⟨0, by omega, rfl, rfl, Below.refl _ _⟩
  case round =>
   obtain ⟨w1, rfl⟩ : ∃ w1 : World, w1 = wr := ⟨_, rfl⟩
   obtain ⟨k, hk, rfl, htk, hw⟩ := hrel
   have HTK := Lib.hid htk
   clear htk
   by_cases hlt : k < b.length
   ·obtain ⟨y, hyk⟩ : ∃ y, b[k]? = some y := ⟨_, List.getElem?_eq_getElem hlt⟩
    obtain ⟨x, hxk⟩ : ∃ x, a[k]? = some x := ⟨_, List.getElem?_eq_getElem (by rw [HLEN.out]; exact hlt)⟩
    obtain ⟨p, hadr, hld⟩ := byte_at (HE.out.below hw) k x hxk
    obtain ⟨q, hadq, hlq⟩ := byte_at (HF.out.below hw) k y hyk
    have HLX := Lib.hid hld
    have HLY := Lib.hid hlq
    clear hld hlq
    have HX := Lib.hid hxk
    have HY := Lib.hid hyk
    clear hxk hyk
    by_cases hxy : x = y
    ·have HXY := Lib.hid hxy
     have hq : ((x.toNat : Int) != (y.toNat : Int)) = false := by simp [hxy]
     clear hxy
     go_wp2_with fail
     try simp only [Act.put, List.setIfInBounds_toArray, List.set_cons_succ, List.set_cons_zero]
     refine wp_region_later_lit (by kernel_rfl) (by kernel_rfl) ?_
     repeat (first | go_big_quiet_skip | ((first | (with_reducible refine wpQuiet_loadL HLX.out rfl _ rfl rfl ?_) | (with_reducible refine wpQuiet_loadL HLY.out rfl _ rfl rfl ?_)); simp only [Act.put, List.setIfInBounds_toArray, List.set_cons_succ, List.set_cons_zero]) | go_big_quiet_step (fail))
     refine wpQuiet_nil ?_
     intro _ hw'
     obtain ⟨x1, rfl⟩ := hw'
     go_wp2_with fail
     go_roundw
     case rel => exact ⟨k + 1, by omega, by go_num, take_eq_succ HX.out HY.out HTK.out HXY.out, belowThen hw (Nat.le_refl _) x1.h⟩
     case measure => simp [intOf]; omega
    ·have HXY := Lib.hid hxy
     have hq : ((x.toNat : Int) != (y.toNat : Int)) = true := by rw [bne_iff_ne]; intro e; exact hxy (UInt8.toNat_inj.1 (by omega))
     clear hxy
     go_wp2_with fail
     try simp only [Act.put, List.setIfInBounds_toArray, List.set_cons_succ, List.set_cons_zero]
     refine wp_region_later_lit (by kernel_rfl) (by kernel_rfl) ?_
     repeat (first | go_big_quiet_skip | ((first | (with_reducible refine wpQuiet_loadL HLX.out rfl _ rfl rfl ?_) | (with_reducible refine wpQuiet_loadL HLY.out rfl _ rfl rfl ?_)); simp only [Act.put, List.setIfInBounds_toArray, List.set_cons_succ, List.set_cons_zero]) | go_big_quiet_step (fail))
     refine wpQuiet_nil ?_
     intro _ hw'
     obtain ⟨x1, rfl⟩ := hw'
     have hres : decide (a = b) = false := by simpa using ne_at HX.out HY.out HXY.out
     have HR := Lib.hid hres
     clear hres
     go_wp2_with fail
     go_ret
     exact ⟨ret_bool HR.out.symm, belowThen hw (Nat.le_refl _) x1.h⟩
   ·obtain rfl : k = b.length := by omega
    have hres : decide (a = b) = true := by
     have := HTK.out
     rw [List.take_length, List.take_of_length_le (by rw [HLEN.out]; omega)] at this
     simpa using this
    have HR := Lib.hid hres
    clear hres
    go_wp2_with fail
    go_ret
    exact ⟨ret_bool HR.out.symm, hw⟩
 ·have hne : ((a.length : Int) != (b.length : Int)) = true := by rw [bne_iff_ne]; omega
  have hres : decide (a = b) = false := by simp; exact fun e => hlen (by rw [e])
  have HR := Lib.hid hres
  clear hres
  go_enter Tryd.func44, Tryd.ntmps44
  go_wp2_with fail
  go_ret
  exact ⟨ret_bool HR.out.symm, Below.refl _ _⟩
end Go.Proofs.YtfiadgdinhmgbaaDoor
/-! A row's argument of bytes, read and laid again; the wrap for a row of the second form with the world's shape. -/
namespace Go.Agg
open Go.RowKit Go.ChangeShapes Go.WideShapes Go.ChangeAt
section
variable {H : Type} {enc : TypeId × Value → H} {P : Program} {w : World} {base : Nat} {sp : Nat → Bool} {held : Bool}
def byteData {H : Type} (l : List UInt8) : List (DataW H) := l.map fun c => .lit (.int .u8 (c.toNat : Int))
theorem open_bytes {t e : TypeId} {n fuel : Nat} {cs : List Value} {x : DataW H × List MemPlace} (ht : P.underlying t = some (.array n e)) (he : P.underlying e = some (.int .u8)) (hc : P.cellsOf e = 1) (hn : P.cellsOf t = n)
  (h : DataW.trod enc P w base sp held fuel t cs = some x) : ∃ l : List UInt8, l.length = n ∧ cs = Lib.byteCells l ∧ x = (.agg (byteData l), []) := by
 obtain ⟨xs, m, rfl, rfl, hl, hx, ha⟩ := DataW.trod_array ht h
 have key : ∀ i, i < n → ∃ c : UInt8, cs[i]? = some (.int .u8 (c.toNat : Int)) ∧ xs[i]? = some (.lit (.int .u8 (c.toNat : Int)), []) := fun i hi => by
  have hxi : xs[i]? = some xs[i] := List.getElem?_eq_getElem (by omega)
  have h1 := (ha i hi).trans hxi
  rw [hc] at h1
  obtain ⟨k, hk, hd, hw⟩ := DataW.trod_int he h1
  have hb := bounds_u8 hw
  refine ⟨UInt8.ofNat k.toNat, ?_, ?_⟩
  ·have : (cs.drop (i * 1)).take 1 = [.int .u8 k] := hk
   have h2 := congrArg (·[0]?) this
   simp at h2
   rw [h2]
   simp; omega
  ·rw [hxi, hd]
   simp; omega
 have hlen : cs.length = n := hl.trans hn
 refine ⟨cs.map fun | .int _ k => UInt8.ofNat k.toNat | _ => 0, by simp [hlen], ?_, ?_⟩
 ·refine List.ext_getElem? fun i => ?_
  by_cases hi : i < n
  ·obtain ⟨c, h1, _⟩ := key i hi
   simp [Lib.byteCells, h1]
  ·rw [List.getElem?_eq_none (by omega), List.getElem?_eq_none (by simp [Lib.byteCells]; omega)]
 ·have hfst : xs.map (·.1) = byteData (cs.map fun | .int _ k => UInt8.ofNat k.toNat | _ => 0) := by
   refine List.ext_getElem? fun i => ?_
   by_cases hi : i < n
   ·obtain ⟨c, h1, h2⟩ := key i hi
    simp [byteData, h1, h2]
   ·rw [List.getElem?_eq_none (by simp; omega), List.getElem?_eq_none (by simp [byteData]; omega)]
  have hsnd : xs.flatMap (·.2) = [] := by
   rw [List.flatMap_eq_nil_iff]
   intro y hy
   obtain ⟨i, hi, rfl⟩ := List.getElem_of_mem hy
   obtain ⟨c, _, h2⟩ := key i (by omega)
   rw [List.getElem?_eq_getElem hi] at h2
   rw [Option.some.inj h2]
  rw [hfst, hsnd]
theorem mapM_each {β : Type} {f : Nat → Option β} : ∀ (is : List Nat) (ys : List β), is.length = ys.length → (∀ (k i : Nat) (y : β), is[k]? = some i → ys[k]? = some y → f i = some y) → is.mapM f = some ys
 | [], [], _, _ => by simp
 | i :: is, y :: ys, hl, h => by
  have h0 := h 0 i y rfl rfl
  have ih := mapM_each (f := f) is ys (by simpa using hl) (fun k i y hi hy => h (k + 1) i y (by simpa using hi) (by simpa using hy))
  simp [List.mapM_cons, h0, ih]
 | [], _ :: _, hl, _ => by simp at hl
 | _ :: _, [], hl, _ => by simp at hl
theorem shut_bytes {t e : TypeId} {n : Nat} (ht : P.underlying t = some (.array n e)) (he : P.underlying e = some (.int .u8)) (hc : P.cellsOf e = 1) (hn : P.cellsOf t = n) (l : List UInt8) (hl : l.length = n) :
  DataW.trod enc P w base sp held 2 t (Lib.byteCells l) = some (.agg (byteData l), []) := by
 have hm : (List.range n).mapM (fun i => DataW.trod enc P w base sp held 1 e (((Lib.byteCells l).drop (i * P.cellsOf e)).take (P.cellsOf e))) = some (l.map fun c => ((.lit (.int .u8 (c.toNat : Int)) : DataW H), ([] : List MemPlace))) := by
  refine mapM_each _ _ (by simp [hl]) fun k i y hi hy => ?_
  obtain ⟨hk, rfl⟩ := List.getElem?_eq_some_iff.1 hi
  have hk' : k < l.length := by simpa [hl] using hk
  obtain rfl : y = (.lit (.int .u8 (l[k].toNat : Int)), []) := by simpa [hk', eq_comm] using hy
  have : ((Lib.byteCells l).drop (k * 1)).take 1 = [.int .u8 (l[k].toNat : Int)] := by
   apply List.ext_getElem?
   intro j
   cases j with
   | zero => simp [Lib.byteCells, hk']
   | succ j => simp; omega
  rw [List.getElem_range, hc, this]
  have hlt := l[k].toNat_lt
  simp only [DataW.trod, he]
  rw [if_pos ⟨trivial, by simp [Lit.wf, IntKind.min, IntKind.max, IntKind.signed, IntKind.bits]; omega⟩]
 have hcl : (Lib.byteCells l).length = P.cellsOf t := by simp [Lib.byteCells, hl, hn]
 unfold DataW.trod
 rw [ht]
 split <;> simp_all
 ·simp [byteData]
end
theorem post_below {H : Type} {enc : TypeId × Value → H} {P : Program} {f : Func} {s : ChangeSpec} {apart fresh handsOn again : Bool} {W W' : World} {args : Array Value} {v : Value} {ds gs : List (DataW H)} {before pa pv : List MemPlace}
  (hW : DataW.Whole enc P f.params.toList s.vars apart W args.toList ds gs before)
  (hres : ∀ (b : Nat) (sp : Nat → Bool) (hd : Bool), DataW.TrodAll enc P W' b sp hd f.resultTypes.toList (v.resultList f.resultTypes.size) (s.fn H (ds ++ gs)).results [])
  (hargs : ∀ sp : Nat → Bool, (∀ p ∈ before, sp p.block = true) → DataW.TrodAll enc P W' 0 sp true f.params.toList args.toList (s.fn H (ds ++ gs)).args pa)
  (hvars : ∀ sp : Nat → Bool, (∀ p ∈ before, sp p.block = true) → DataW.TrodVars enc P W' sp s.vars (s.fn H (ds ++ gs)).vars pv)
  (hps : before = pa ++ pv) (hg : Below W.heap.size W W')
  (hok : ∀ (j : Nat) (t : TypeId) (r : Value), f.resultTypes[j]? = some t → (v.resultList f.resultTypes.size)[j]? = some r → Value.okWide P W' .any 0 t r) :
  s.post enc P f apart fresh handsOn again W args v W' := by
 have hold : ∀ p ∈ before, (fun b => decide (b < W.heap.size)) p.block = true := fun p hp => by simpa using hW.lt p hp
 refine ⟨ds, gs, before, [], pa, pv, hW, hres _ _ _, hargs _ hold, hvars _ hold, World.keptBut_mono (fun p hp => ⟨hp, ?_⟩) (hg.frame (· ∈ before)), fun _ => ?_⟩
 ·rw [hps, List.mem_append] at hp
  exact Or.inr hp
 ·have hlt := hW.lt
  obtain ⟨_, _, _, _, _, hz, hn⟩ := hW
  refine ⟨hok, _, _, ([] ++ pa) ++ pv, ⟨[] ++ pa, pv, trodAll_append (hargs _ (fun _ _ => rfl)) (hres _ _ _), hvars _ (fun _ _ => rfl), rfl, ?_, ?_⟩, ?_⟩
  ·intro b off hp
   have hp' : MemPlace.cell b off ∈ before := by rw [hps]; simpa using hp
   rw [hg.frozen (hlt _ hp')]
   exact hz b off hp'
  ·intro ha
   have := hn ha
   rw [hps] at this
   simpa using this
  ·intro p hp _
   rw [hps]
   simpa using hp
theorem handed_cond_shaped {H : Type} {enc : TypeId × Value → H} {a : Assume} {C : Checked} {os : Os} {f : FuncId} {fn : Func} {s : OpenSpec} {k : (H : Type) → List (DataW H) → Bool} (hk : s.cond = some k) {F : Stop.Interp} {conds : List PathCond} {apart fresh handsOn again : Bool}
  (own : ownKnob C.prog.godebug = none) (started : os.Started) (noInit : C.prog.inits.idxOf? f = none) (hfn : C.prog.funcs[f]? = some fn)
  (witness : ∃ (w : World) (tape : Tape) (i : Input), w.os = os ∧ (w.forCall tape i).Shaped C.prog ∧ i.vars = [] ∧ Input.okWide C.prog (w.forCall tape i) .any w.heap.size f i ∧
   s.pre6 enc C.prog fn conds apart (w.forCall tape i).memory i.args ∧ a.holds C.prog (lone (Frame.enter C.prog f i.args .normal) [] (w.forCall tape i)))
  (contract : ∀ (W : World) (base : Nat) (args : Array Value) (ds gs : List (DataW H)) (before : List MemPlace),
   (∀ (j : Nat) t v, fn.params[j]? = some t → args[j]? = some v → Value.okWide C.prog W .any base t v) →
   DataW.Whole enc C.prog fn.params.toList s.vars apart W args.toList ds gs before → k H (ds ++ gs) = true → W.ShapedOpen C.prog →
   Calls C.prog f args W fun e W' => ∃ v, e = .returned v ∧ (s.at F).post enc C.prog fn apart fresh handsOn again W args v W') :
  ReturnsInHanded a C os f .any (s.pre6 enc C.prog fn conds apart) ((s.at F).post enc C.prog fn apart fresh handsOn again) := by
 refine returnsInHanded_of_calls own started noInit witness ?_
 intro w tape i _ hsh _ hok hpre _
 obtain ⟨_, _, _, fn', hfn', _, _, _, _, hval⟩ := hok
 obtain rfl : fn' = fn := Option.some.inj (hfn'.symm.trans hfn)
 obtain ⟨ds, gs, before, hw, _, hkk⟩ := (OpenSpec.pre_some hk conds apart _ _).1 hpre.1
 refine (contract (w.forCall tape i) w.heap.size i.args ds gs before hval (DataW.Whole.of_heap (w' := w.forCall tape i) (by rfl) hw) hkk hsh).mono fun e W' ⟨v, he, hp⟩ => ?_
 subst he
 exact ChangeSpec.post_blind hp
end Go.Agg
