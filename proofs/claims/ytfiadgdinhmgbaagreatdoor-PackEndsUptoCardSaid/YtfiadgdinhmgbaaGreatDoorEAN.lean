/- Archives, as chapter 9 asks: what Pack and Open answer; a byte less, or more; an archive within another one. No program in sight. (Several texts in one.) -/
import Derived.Test.YtfiadgdinhmgbaaGreatDoorEAH
import Derived.Test.YtfiadgdinhmgbaaGreatDoorEAK
import Derived.Test.YtfiadgdinhmgbaaGreatDoorEAI
import Derived.Test.YtfiadgdinhmgbaaGreatDoorEAJ
import Derived.Test.YtfiadgdinhmgbaaGreatDoorEAM
import Derived.Test.YtfiadgdinhmgbaaGreatDoorEAD
/-! tree.kinds: what kinds of nodes there are, and what is looked up there. -/
namespace Go.Mp
open Go.RowKit Go.Instr
section
variable {P : Program} {α β : Type} [DecidableEq α]
variable {ops : Array Oper} {rest : List Oper} {o : Oper} {a : Act} {w : World} {Q : Exit → Act → World → Prop}
theorem wpList_insert (hg : o.guard = none) (hd : o.dst = none) (mo xo vo : Operand) (t K E : TypeId) (hop : o.op = Op.insert t mo xo vo) (ht : P.underlying t = some (.map K E)) {κ : α → Value} {ν : β → Value}
  (hK : KeyEq P K κ) {b : Nat} {m : List (α × β)} (hm : a.eval mo = .map (some b)) (h : MapIs w b κ ν m) (x : α) (hx : a.eval xo = κ x) (v : β) (hv : a.eval vo = ν v)
  (hk : ∀ w', MapIs w' b κ ν (mput m x v) → ButMap b w w' → wpList P ops Q rest a w') : wpList P ops Q (o :: rest) a w := by
 refine wpList_plain hg fun K' hK' => ?_
 obtain ⟨w', hr, h1, h2⟩ := run_mapUpdate ht hK h x v
 unfold Oper.wp
 simp [execOp, hop, hm, hx, hv, hr, Result.andThen]
 rw [Oper.upon_skip, hd]
 exact hK' _ _ (hk w' h1 h2)
end
end Go.Mp
namespace Go.Proofs.YtfiadgdinhmgbaaGreatDoor
open Go.RowKit Pl Go.Agg Go.Tr Go.Mp
abbrev Bd := Int × Int × Bool
def bdC (x : Bd) : Array Value := #[.int .i64 x.1, .int .i64 x.2.1, .bool x.2.2]
def bdV (x : Bd) : Value := .agg (bdC x)
def kK (n : Int) : Value := .int .i64 n
theorem bd_zero : (Tryz.prog.info? 224).map (·.zero) = some (some (.agg (bdC (0, 0, false)))) := by kernel_rfl
theorem bd_info (x : Bd) : (Tryz.prog.info? 224).map (·.size) = some (bdC x).size := by kernel_rfl
theorem bd_under : Tryz.prog.underlying 224 = some (.struct (Tryz.prog.fieldsOf 224)) := by kernel_rfl
theorem bd_one (x : Bd) : (bdC x).all (·.oneCell') = true := by simp [bdC, Value.oneCell']
theorem kinds_under : Tryz.prog.underlying 139 = some (.map 22 224) := by kernel_rfl
theorem kind_key : KeyEq Tryz.prog 22 kK := int_key Tryz.underlying22
def kindOf (k : Int) : Option Bd := if k = 4 then some (0, 0, true) else if k = 3 then some (1, 200, false) else if k = 2 then some (0, 2048, false) else if k = 1 then some (0, 2048, false) else none
def kindsM : List (Int × Bd) := mput (mput (mput (mput [] 1 (0, 2048, false)) 2 (0, 2048, false)) 3 (1, 200, false)) 4 (0, 0, true)
theorem kinds_get (k : Int) : mget kindsM k = kindOf k := by
 unfold kindsM kindOf
 simp only [mget_mput]
 rfl
theorem bd_build (a b : Int) (c : Bool) (W : World) : (Instr.build 224 #[(0, .int .i64 a), (1, .int .i64 b), (2, .bool c)]).run Tryz.prog W = .ok (bdV (a, b, c)) W := by kernel_rfl
set_option maxRecDepth 100000 in
set_option maxHeartbeats 4000000 in
theorem kinds_any (w : World) : Calls Tryz.prog 89 #[] w fun e w' => ∃ g, e = .returned (.map (some g)) ∧ w.heap.size ≤ g ∧ MapIs w' g kK bdV kindsM ∧ Below w.heap.size w w' := by
 go_enter Tryz.func89, Tryz.ntmps89
 go_wp2_with (first | (refine wpList_new rfl rfl rfl 224 1 2 rfl rfl rfl (by decide) (bdC (0, 0, false)) (bdC (0, 2048, false)) bd_zero rfl (bd_info _) (bd_one _) rfl (by first | (simp; done) | simp [Act.put]) ?_; intro g1 w1 hb hx hg; have HX1 := Lib.hid hx; have HL1 := Lib.hid (hb.loads bd_under rfl (bd_info _)); clear hb hx hg) | (refine wpList_makeMap kK bdV rfl 139 rfl ?_; intro gm w2 hm hx hg; have HM2 := Lib.hid hm; have HL2 := Lib.hid (HL1.out.below hx); have HX2 := Lib.hid hx; have HG := Lib.hid hg; clear hm hx hg) | (refine wpList_insert rfl rfl _ _ _ 139 22 224 rfl kinds_under kind_key rfl HM2.out 1 rfl (0, 2048, false) rfl ?_; intro w3 hm hb; have HM3 := Lib.hid hm; have HX3 := Lib.hid (hb.below HX2.out HG.out); have HL3 := Lib.hid (HL1.out.below HX3.out); clear hm hb HM2) | (refine wpList_insert rfl rfl _ _ _ 139 22 224 rfl kinds_under kind_key rfl HM3.out 2 rfl (0, 2048, false) rfl ?_; intro w4 hm hb; have HM4 := Lib.hid hm; have HX4 := Lib.hid (hb.below HX3.out HG.out); have HL4 := Lib.hid (HL1.out.below HX4.out); clear hm hb HM3) | (refine wpList_insert rfl rfl _ _ _ 139 22 224 rfl kinds_under kind_key rfl HM4.out 3 rfl (1, 200, false) rfl ?_; intro w5 hm hb; have HM5 := Lib.hid hm; have HX5 := Lib.hid (hb.below HX4.out HG.out); have HL5 := Lib.hid (HL1.out.below HX5.out); clear hm hb HM4) | (refine wpList_insert rfl rfl _ _ _ 139 22 224 rfl kinds_under kind_key rfl HM5.out 4 rfl (0, 0, true) rfl ?_; intro w6 hm hb; have HM6 := Lib.hid hm; have HX6 := Lib.hid (hb.below HX5.out HG.out); have HL6 := Lib.hid (HL1.out.below HX6.out); clear hm hb HM5) | (with_reducible refine wpList_loadL HL2.out rfl _ rfl rfl ?_) | (with_reducible refine wpList_loadL HL3.out rfl _ rfl rfl ?_) | (with_reducible refine wpList_loadL HL4.out rfl _ rfl rfl ?_) | (with_reducible refine wpList_loadL HL5.out rfl _ rfl rfl ?_))
 go_ret
 exact ⟨gm, rfl, Nat.le_trans HX1.out.size HG.out, HM6.out, belowThen HX1.out (Nat.le_refl _) HX6.out⟩
end Go.Proofs.YtfiadgdinhmgbaaGreatDoor
/-! (*tree.looker).right: whether a tree is right, so many nodes behind, so deep down; looked, Right. -/
namespace Go.Tr
open Go.Proofs.YtfiadgdinhmgbaaGreatDoor
theorem alone_none {k : Int} {b : List UInt8} {l : List K} (h : kindOf k = none) : alone (.mk k b l) = false := by
 unfold kindOf at h
 split at h
 ·cases h
 ·split at h
  ·cases h
  ·split at h
   ·cases h
   ·split at h
    ·cases h
    ·next h4 h3 h2 h1 => simp [alone, h1, h2, h3, h4]
theorem named_nil (b : Option (List UInt8)) : named b [] = true := rfl
theorem alone_some {k : Int} {b : List UInt8} {l : List K} {bd : Bd} (h : kindOf k = some bd) :
  alone (.mk k b l) = (decide (bd.1 ≤ (b.length : Int)) && (decide ((b.length : Int) ≤ bd.2.1) && (decide (l.length ≤ 200) && ((bd.2.2 || l.isEmpty) && named none l)))) := by
 unfold kindOf at h
 rw [Bool.eq_iff_iff]
 split at h
 ·next h4 =>
  obtain rfl := Option.some.inj h
  subst h4
  simp [alone, and_assoc]
 ·split at h
  ·next h4 h3 =>
   obtain rfl := Option.some.inj h
   subst h3
   cases l with
   | nil => simp [alone, named_nil]; omega
   | cons x l => simp [alone]
  ·split at h
   ·next h4 h3 h2 =>
    obtain rfl := Option.some.inj h
    subst h2
    cases l with
    | nil => simp [alone, named_nil]; omega
    | cons x l => simp [alone]
   ·split at h
    ·next h4 h3 h2 h1 =>
     obtain rfl := Option.some.inj h
     subst h1
     cases l with
     | nil => simp [alone, named_nil]; omega
     | cons x l => simp [alone]
    ·cases h
theorem look_alone {t : T} {n d : Nat} (h : alone t = false) : lookB t n d = false := by
 obtain ⟨k, b, l⟩ := t
 simp [lookB, ok, h]
theorem look_nodes {t : T} {n d : Nat} (h : 200 < n + 1) : lookB t n d = false := by
 have := count_pos t
 have h1 : ¬ n + count t ≤ 200 := by omega
 simp [lookB, h1]
theorem look_deep {t : T} {n d : Nat} (h : 8 < d) : lookB t n d = false := by
 have := deep_pos t
 have h1 : ¬ d + deep t ≤ 9 := by omega
 simp [lookB, h1]
theorem look_parts {t : T} {n d : Nat} (h : lookB t n d = true) : ok t = true ∧ n + count t ≤ 200 ∧ d + deep t ≤ 9 := by
 simp only [lookB, Bool.and_eq_true, decide_eq_true_eq] at h
 exact ⟨h.1.1, h.1.2, h.2⟩
theorem countL_snoc {l : List K} {k : Nat} {x : K} (h : l[k]? = some x) : countL (l.take (k + 1)) = countL (l.take k) + count x.2 := by
 obtain ⟨n, t⟩ := x
 rw [take_succ' h, countL_append]
 simp [countL]
theorem deepL_snoc {l : List K} {k : Nat} {x : K} (h : l[k]? = some x) : deepL (l.take (k + 1)) = max (deepL (l.take k)) (deep x.2) := by
 obtain ⟨n, t⟩ := x
 rw [take_succ' h, deepL_append]
 simp [deepL]
theorem okL_snoc {l : List K} {k : Nat} {x : K} (h : l[k]? = some x) : okL (l.take (k + 1)) = (okL (l.take k) && ok x.2) := by
 obtain ⟨n, t⟩ := x
 rw [take_succ' h, okL_append]
 simp [okL]
end Go.Tr
namespace Go.Proofs.YtfiadgdinhmgbaaGreatDoor
open Go.RowKit Pl Go.Agg Go.Tr Go.Mp
def lkC (gm n d : Nat) : Array Value := #[.map (some gm), .int .i64 (n : Int), .int .i64 (d : Int)]
theorem lk_info (gm n d : Nat) : (Tryz.prog.info? 142).map (·.size) = some (lkC gm n d).size := by kernel_rfl
theorem lk_max (gm n d e : Nat) : (lkC gm n d).setIfInBounds 2 (.int .i64 (max (d : Int) (e : Int))) = lkC gm n (max d e) := by
 have : max (d : Int) (e : Int) = ((max d e : Nat) : Int) := by omega
 rw [this]; rfl
structure LkL (w : World) (g gm n d : Nat) : Prop where
 known : LoadsL Tryz.prog w 139 (some ⟨g, 0, none⟩) (.map (some gm))
 nodes : LoadsL Tryz.prog w 3 (some ⟨g, 1, none⟩) (.int .i64 (n : Int))
 deep : LoadsL Tryz.prog w 3 (some ⟨g, 2, none⟩) (.int .i64 (d : Int))
theorem LkL.of_blk {w : World} {g gm n d : Nat} (h : Blk w g 142 (lkC gm n d)) : LkL w g gm n d :=
 ⟨h.one 0 rfl kinds_under rfl, h.one 1 rfl Tryz.underlying3 rfl, h.one 2 rfl Tryz.underlying3 rfl⟩
structure BdL (w : World) (g : Nat) (x : Bd) : Prop where
 least : LoadsL Tryz.prog w 3 (some ⟨g, 0, none⟩) (.int .i64 x.1)
 most : LoadsL Tryz.prog w 3 (some ⟨g, 1, none⟩) (.int .i64 x.2.1)
 kids : LoadsL Tryz.prog w 4 (some ⟨g, 2, none⟩) (.bool x.2.2)
theorem BdL.of_blk {w : World} {g : Nat} {x : Bd} (h : Blk w g 224 (bdC x)) : BdL w g x :=
 ⟨h.one 0 rfl Tryz.underlying3 rfl, h.one 1 rfl Tryz.underlying3 rfl, h.one 2 rfl Tryz.underlying4 rfl⟩
theorem bd_zeroV (w : World) : (zeroValue 224).run Tryz.prog w = .ok (bdV (0, 0, false)) w := by kernel_rfl
theorem map_keepO {w w' : World} {g gm : Nat} {m : List (Int × Bd)} (h : MapIs w gm kK bdV m) (ho : Only (· = g) w w') (hn : gm ≠ g) : MapIs w' gm kK bdV m := h.keep (ho.block gm h.lt hn)
theorem map_ne {w : World} {g gm : Nat} {t : TypeId} {cs : Array Value} {m : List (Int × Bd)} (h : MapIs w gm kK bdV m) (hb : Blk w g t cs) : gm ≠ g := by
 rintro rfl
 obtain ⟨es, c, he, _⟩ := h
 unfold Blk at hb
 rw [he] at hb
 injection hb with hb
 cases hb
theorem kid_node {w : World} {g : Nat} {y : KdV} (h : Blk w g 28 (kdC y)) : LoadsL Tryz.prog w 26 (some ⟨g, 1, none⟩) (.agg (ndC y.2)) :=
 h.sub 1 _ (fun j v hj => by
  match j, hj with
  | 0, hj => exact hj
  | 1, hj => exact hj
  | 2, hj => exact hj
  | j + 3, hj => simp [ndC] at hj) nd_under rfl (nd_info y.2)
theorem KdL.ofB {w : World} {g : Nat} {y : KdV} (h : Blk w g 28 (kdC y)) : KdL w ⟨g, 0, none⟩ y :=
 KdL.of_cells h.lt (fun j u hj => by rw [add_plain, Nat.zero_add, h.cell]; exact hj)

set_option maxRecDepth 100000 in
set_option maxHeartbeats 16000000 in
theorem right_any : ∀ (N : Nat) (t : T) (_ : count t ≤ N) (v : Value) (w0 w : World) (gl gm n d dp : Nat) (_ : n ≤ 200) (_ : 1 ≤ d) (_ : d ≤ 9) (_ : NodeAt w0 v t) (_ : Below w0.heap.size w0 w) (_ : w0.heap.size ≤ gl) (_ : Blk w gl 142 (lkC gm n dp)) (_ : MapIs w gm kK bdV kindsM),
  Calls Tryz.prog 90 #[.pointer (some ⟨gl, 0, none⟩), v, .int .i64 (d : Int)] w fun e w' => e = .returned (.bool (lookB t n d)) ∧ Only (· = gl) w w' ∧ (lookB t n d = true → Blk w' gl 142 (lkC gm (n + count t) (max dp (d - 1 + deep t)))) := by
 intro N
 induction N with
 | zero => intro t h; have := count_pos t; omega
 | succ N ih =>
 intro t hc v w0 w gl gm n d dp hn hd1 hd9 hv hx0 hgl hl hm
 obtain ⟨x, rfl, hx⟩ := hv
 obtain ⟨k, b, l⟩ := t
 obtain ⟨hk, hby, ks, hsl, hkv⟩ := hx
 have hkn := hkv.nms
 have hkl := hkv.len
 have hlb := fun W => bytes_len (hby.below hx0) W
 have hlk := fun W => kds_len (hsl.below hx0) W
 rw [hkl] at hlk
 have HGE := Lib.hid (show gl < w.heap.size from hl.lt)
 have HNE := Lib.hid (map_ne hm hl)
 have HX0 := Lib.hid hx0
 have HKV := Lib.hid hkv
 have HSL := Lib.hid hsl
 have HKN := Lib.hid hkn
 have HL := Lib.hid hl
 have HM := Lib.hid hm
 have HK := Lib.hid hk
 have HIH := Lib.hid ih
 have HC := Lib.hid hc
 clear hx0 hkv hby hsl hkn hl hm hk ih hc
 have fin : ∀ w', Only (· = gl) w w' → lookB (.mk k b l) n d = false → Ending.returned (.bool false) = .returned (.bool (lookB (.mk k b l) n d)) ∧ Only (· = gl) w w' ∧ (lookB (.mk k b l) n d = true → Blk w' gl 142 (lkC gm (n + count (.mk k b l)) (max dp (d - 1 + deep (.mk k b l))))) := fun w' h1 h2 => by
  rw [h2]
  exact ⟨rfl, h1, fun h => by cases h⟩
 have FIN := Lib.hid fin
 clear fin
 go_enter Tryz.func90, Tryz.ntmps90
 go_wp2_with (first | (refine wpList_box rfl 26 _ rfl (ndC x) rfl ?_; intro g4 w1 hb hx hg; have HB1 := Lib.hid hb; have HL1 := Lib.hid (HL.out.below hx); have HM1 := Lib.hid (HM.out.keep (hx.block gm HM.out.lt)); have HO1 := Lib.hid (Only.ofBelow (S := (· = gl)) hx); have HG4 := Lib.hid (show w.heap.size ≤ g4 from hg); have HG4n := Lib.hid (show g4 ≠ gl from fun e => by have := HGE.out; omega); clear hb hx hg) | (with_reducible refine wpList_loadL (LkL.of_blk HL1.out).nodes rfl _ rfl rfl ?_) | (refine wpList_put1 rfl rfl 3 _ _ rfl gl 1 (.int .i64 ((n : Int) + 1)) rfl rfl HL1.out (by show 1 < 3; omega) rfl rfl (by kernel_rfl) (lkC gm (n + 1) dp) (by rfl) ?_; intro w2 hb ho hs; have HL2 := Lib.hid hb; have HB2 := Lib.hid (HB1.out.keepO ho HG4n.out); have HM2 := Lib.hid (map_keepO HM1.out ho HNE.out); have HO2 := Lib.hid (HO1.out.more ho); clear hb ho hs) | (with_reducible refine wpList_loadL (LkL.of_blk HL2.out).deep rfl _ rfl rfl ?_) | (refine wpList_put1 rfl rfl 3 _ _ rfl gl 2 (.int .i64 (max (dp : Int) (d : Int))) rfl rfl HL2.out (by show 2 < 3; omega) rfl rfl (by kernel_rfl) (lkC gm (n + 1) (max dp d)) (lk_max _ _ _ _) ?_; intro w3 hb ho hs; have HL3 := Lib.hid hb; have HB3 := Lib.hid (HB2.out.keepO ho HG4n.out); have HM3 := Lib.hid (map_keepO HM2.out ho HNE.out); have HO3 := Lib.hid (HO2.out.more ho); clear hb ho hs))
 cases hko : kindOf k with
 | none =>
  have HGT := Lib.hid (show mget kindsM x.1 = none by rw [kinds_get, HK.out]; exact hko)
  have HR := Lib.hid (look_alone (n := n) (d := d) (alone_none (b := b) (l := l) hko))
  clear hko
  try simp only [Act.put, List.setIfInBounds_toArray, List.set_cons_succ, List.set_cons_zero]
  obtain ⟨w4, hw4⟩ : ∃ W, W = w3.drew := ⟨_, rfl⟩
  have hd4 : Below w3.heap.size w3 w4 := by rw [hw4]; exact (Below.refl _ _).drew
  have HS4 := Lib.hid (show (fun W => Blk W gl 142 (lkC gm (n + 1) (max dp d)) ∧ Blk W g4 26 (ndC x) ∧ MapIs W gm kK bdV kindsM) w4 from ⟨HL3.out.below hd4, HB3.out.below hd4, HM3.out.keep (hd4.block gm HM3.out.lt)⟩)
  have HO4 := Lib.hid (HO3.out.new hd4)
  refine wp_region_held_drew (S := fun W => Blk W gl 142 (lkC gm (n + 1) (max dp d)) ∧ Blk W g4 26 (ndC x) ∧ MapIs W gm kK bdV kindsM) (by kernel_rfl) (by rw [← hw4]; exact HS4.out) (fun hHeld => ?_)
  rw [← hw4] at hHeld ⊢
  clear hw4 hd4
  refine held_take 0 (.pointer (some ⟨gl, 0, none⟩)) rfl (by kernel_rfl) (fun _ _ _ h => h) rfl (fun W _ => by kernel_rfl) (by assumption) ?_
  try simp only [Act.put, List.setIfInBounds_toArray, List.set_cons_succ, List.set_cons_zero]
  refine held_take 1 (.pointer (some ⟨gl, 0, none⟩)) rfl (by kernel_rfl) (fun _ _ _ h => h) rfl (fun W _ => by kernel_rfl) (by assumption) ?_
  try simp only [Act.put, List.setIfInBounds_toArray, List.set_cons_succ, List.set_cons_zero]
  refine held_take 2 (.pointer (some ⟨gl, 0, none⟩)) rfl (by kernel_rfl) (fun _ _ _ h => h) rfl (fun W _ => by kernel_rfl) (by assumption) ?_
  try simp only [Act.put, List.setIfInBounds_toArray, List.set_cons_succ, List.set_cons_zero]
  refine held_take 3 (.map (some gm)) rfl (by kernel_rfl) (fun _ _ _ h => h) rfl (fun W hS => exec_loadB rfl rfl (LkL.of_blk hS.1).known.now) (by assumption) ?_
  try simp only [Act.put, List.setIfInBounds_toArray, List.set_cons_succ, List.set_cons_zero]
  refine held_take 4 (.pointer (some ⟨g4, 0, none⟩)) rfl (by kernel_rfl) (fun _ _ _ h => h) rfl (fun W _ => by kernel_rfl) (by assumption) ?_
  try simp only [Act.put, List.setIfInBounds_toArray, List.set_cons_succ, List.set_cons_zero]
  refine held_take 5 (.int .i64 x.1) rfl (by kernel_rfl) (fun _ _ _ h => h) rfl (fun W hS => exec_loadB rfl rfl (NdL.of_blk hS.2.1).kind.now) (by assumption) ?_
  try simp only [Act.put, List.setIfInBounds_toArray, List.set_cons_succ, List.set_cons_zero]
  refine held_take 6 (.tuple #[bdV (0, 0, false), .bool false]) rfl (by kernel_rfl) (fun _ _ _ h => h) rfl (fun W hS => exec_miss rfl kinds_under kind_key bd_zeroV rfl hS.2.2 x.1 rfl HGT.out) (by assumption) ?_
  try simp only [Act.put, List.setIfInBounds_toArray, List.set_cons_succ, List.set_cons_zero]
  refine held_take 7 (.tuple #[bdV (0, 0, false), .bool false]) rfl (by kernel_rfl) (fun _ _ _ h => h) rfl (fun W _ => by kernel_rfl) (by assumption) ?_
  try simp only [Act.put, List.setIfInBounds_toArray, List.set_cons_succ, List.set_cons_zero]
  refine held_take 8 (bdV (0, 0, false)) rfl (by kernel_rfl) (fun _ _ _ h => h) rfl (fun W _ => by kernel_rfl) (by assumption) ?_
  try simp only [Act.put, List.setIfInBounds_toArray, List.set_cons_succ, List.set_cons_zero]
  refine held_take 9 (.bool false) rfl (by kernel_rfl) (fun _ _ _ h => h) rfl (fun W _ => by kernel_rfl) (by assumption) ?_
  try simp only [Act.put, List.setIfInBounds_toArray, List.set_cons_succ, List.set_cons_zero]
  refine held_one 10 rfl (by kernel_rfl) ?_
  refine step_zero rfl 224 rfl (bdC (0, 0, false)) bd_zero ?_
  intro g7 w5 hb hx hg
  have HBD5 := Lib.hid hb
  have HS5 := Lib.hid (show (fun W => Blk W gl 142 (lkC gm (n + 1) (max dp d)) ∧ Blk W g4 26 (ndC x) ∧ MapIs W gm kK bdV kindsM) w5 from ⟨HS4.out.1.below hx, HS4.out.2.1.below hx, HS4.out.2.2.keep (hx.block gm HS4.out.2.2.lt)⟩)
  have HO5 := Lib.hid (HO4.out.new hx)
  have HG7 := Lib.hid (show g7 ≠ gl ∧ g7 ≠ g4 ∧ w.heap.size ≤ g7 from ⟨fun e => (by have := HS4.out.1.lt; omega), fun e => (by have := HS4.out.2.1.lt; omega), Nat.le_trans HO4.out.size hg⟩)
  clear hb hx hg
  refine ⟨HS5.out, ?_⟩
  try simp only [Act.put, List.setIfInBounds_toArray, List.set_cons_succ, List.set_cons_zero]
  refine held_one 11 rfl (by kernel_rfl) ?_
  refine step_put rfl rfl 224 _ _ rfl g7 (bdC (0, 0, false)) (bdC (0, 0, false)) rfl rfl HBD5.out (bd_info _) rfl (bd_one _) ?_
  intro w6 hb hx hs hk
  have ho := Only.of_eq (S := (· = g7)) hx hs hk rfl
  have HBD6 := Lib.hid hb
  have HS6 := Lib.hid (show (fun W => Blk W gl 142 (lkC gm (n + 1) (max dp d)) ∧ Blk W g4 26 (ndC x) ∧ MapIs W gm kK bdV kindsM) w6 from ⟨HS5.out.1.keepO ho (fun e => HG7.out.1 e.symm), HS5.out.2.1.keepO ho (fun e => HG7.out.2.1 e.symm), HS5.out.2.2.keep (ho.block gm HS5.out.2.2.lt (map_ne HS5.out.2.2 HBD5.out))⟩)
  have HO6 := Lib.hid (show Only (· = gl) w w6 from HO5.out.trans (T := (· = g7)) ho (fun i hi h => by have := HG7.out.2.2; subst h; omega))
  clear hb hx hs hk ho
  refine ⟨HS6.out, ?_⟩
  try simp only [Act.put, List.setIfInBounds_toArray, List.set_cons_succ, List.set_cons_zero]
  refine held_one 12 rfl (by kernel_rfl) ?_
  refine step_val rfl (v := .bool false) (w' := w6) (by kernel_rfl) ?_
  refine ⟨HS6.out, ?_⟩
  try simp only [Act.put, List.setIfInBounds_toArray, List.set_cons_succ, List.set_cons_zero]
  refine held_end (by kernel_rfl) ?_
  go_wp2_with fail
  go_ret
  exact FIN.out _ HO6.out HR.out
 | some bd =>
  have HGT := Lib.hid (show mget kindsM x.1 = some bd by rw [kinds_get, HK.out]; exact hko)
  have HAL := Lib.hid (alone_some (b := b) (l := l) hko)
  clear hko
  try simp only [Act.put, List.setIfInBounds_toArray, List.set_cons_succ, List.set_cons_zero]
  obtain ⟨w4, hw4⟩ : ∃ W, W = w3.drew := ⟨_, rfl⟩
  have hd4 : Below w3.heap.size w3 w4 := by rw [hw4]; exact (Below.refl _ _).drew
  have HS4 := Lib.hid (show (fun W => Blk W gl 142 (lkC gm (n + 1) (max dp d)) ∧ Blk W g4 26 (ndC x) ∧ MapIs W gm kK bdV kindsM) w4 from ⟨HL3.out.below hd4, HB3.out.below hd4, HM3.out.keep (hd4.block gm HM3.out.lt)⟩)
  have HO4 := Lib.hid (HO3.out.new hd4)
  refine wp_region_held_drew (S := fun W => Blk W gl 142 (lkC gm (n + 1) (max dp d)) ∧ Blk W g4 26 (ndC x) ∧ MapIs W gm kK bdV kindsM) (by kernel_rfl) (by rw [← hw4]; exact HS4.out) (fun hHeld => ?_)
  rw [← hw4] at hHeld ⊢
  clear hw4 hd4
  refine held_take 0 (.pointer (some ⟨gl, 0, none⟩)) rfl (by kernel_rfl) (fun _ _ _ h => h) rfl (fun W _ => by kernel_rfl) (by assumption) ?_
  try simp only [Act.put, List.setIfInBounds_toArray, List.set_cons_succ, List.set_cons_zero]
  refine held_take 1 (.pointer (some ⟨gl, 0, none⟩)) rfl (by kernel_rfl) (fun _ _ _ h => h) rfl (fun W _ => by kernel_rfl) (by assumption) ?_
  try simp only [Act.put, List.setIfInBounds_toArray, List.set_cons_succ, List.set_cons_zero]
  refine held_take 2 (.pointer (some ⟨gl, 0, none⟩)) rfl (by kernel_rfl) (fun _ _ _ h => h) rfl (fun W _ => by kernel_rfl) (by assumption) ?_
  try simp only [Act.put, List.setIfInBounds_toArray, List.set_cons_succ, List.set_cons_zero]
  refine held_take 3 (.map (some gm)) rfl (by kernel_rfl) (fun _ _ _ h => h) rfl (fun W hS => exec_loadB rfl rfl (LkL.of_blk hS.1).known.now) (by assumption) ?_
  try simp only [Act.put, List.setIfInBounds_toArray, List.set_cons_succ, List.set_cons_zero]
  refine held_take 4 (.pointer (some ⟨g4, 0, none⟩)) rfl (by kernel_rfl) (fun _ _ _ h => h) rfl (fun W _ => by kernel_rfl) (by assumption) ?_
  try simp only [Act.put, List.setIfInBounds_toArray, List.set_cons_succ, List.set_cons_zero]
  refine held_take 5 (.int .i64 x.1) rfl (by kernel_rfl) (fun _ _ _ h => h) rfl (fun W hS => exec_loadB rfl rfl (NdL.of_blk hS.2.1).kind.now) (by assumption) ?_
  try simp only [Act.put, List.setIfInBounds_toArray, List.set_cons_succ, List.set_cons_zero]
  refine held_take 6 (.tuple #[bdV bd, .bool true]) rfl (by kernel_rfl) (fun _ _ _ h => h) rfl (fun W hS => exec_hit rfl kinds_under kind_key bd_zeroV rfl hS.2.2 x.1 rfl bd HGT.out) (by assumption) ?_
  try simp only [Act.put, List.setIfInBounds_toArray, List.set_cons_succ, List.set_cons_zero]
  refine held_take 7 (.tuple #[bdV bd, .bool true]) rfl (by kernel_rfl) (fun _ _ _ h => h) rfl (fun W _ => by kernel_rfl) (by assumption) ?_
  try simp only [Act.put, List.setIfInBounds_toArray, List.set_cons_succ, List.set_cons_zero]
  refine held_take 8 (bdV bd) rfl (by kernel_rfl) (fun _ _ _ h => h) rfl (fun W _ => by kernel_rfl) (by assumption) ?_
  try simp only [Act.put, List.setIfInBounds_toArray, List.set_cons_succ, List.set_cons_zero]
  refine held_take 9 (.bool true) rfl (by kernel_rfl) (fun _ _ _ h => h) rfl (fun W _ => by kernel_rfl) (by assumption) ?_
  try simp only [Act.put, List.setIfInBounds_toArray, List.set_cons_succ, List.set_cons_zero]
  refine held_one 10 rfl (by kernel_rfl) ?_
  refine step_zero rfl 224 rfl (bdC (0, 0, false)) bd_zero ?_
  intro g7 w5 hb hx hg
  have HBD5 := Lib.hid hb
  have HS5 := Lib.hid (show (fun W => Blk W gl 142 (lkC gm (n + 1) (max dp d)) ∧ Blk W g4 26 (ndC x) ∧ MapIs W gm kK bdV kindsM) w5 from ⟨HS4.out.1.below hx, HS4.out.2.1.below hx, HS4.out.2.2.keep (hx.block gm HS4.out.2.2.lt)⟩)
  have HO5 := Lib.hid (HO4.out.new hx)
  have HG7 := Lib.hid (show g7 ≠ gl ∧ g7 ≠ g4 ∧ w.heap.size ≤ g7 from ⟨fun e => (by have := HS4.out.1.lt; omega), fun e => (by have := HS4.out.2.1.lt; omega), Nat.le_trans HO4.out.size hg⟩)
  clear hb hx hg
  refine ⟨HS5.out, ?_⟩
  try simp only [Act.put, List.setIfInBounds_toArray, List.set_cons_succ, List.set_cons_zero]
  refine held_one 11 rfl (by kernel_rfl) ?_
  refine step_put rfl rfl 224 _ _ rfl g7 (bdC bd) (bdC (0, 0, false)) rfl rfl HBD5.out (bd_info _) rfl (bd_one _) ?_
  intro w6 hb hx hs hk
  have ho := Only.of_eq (S := (· = g7)) hx hs hk rfl
  have HBD6 := Lib.hid hb
  have HS6 := Lib.hid (show (fun W => Blk W gl 142 (lkC gm (n + 1) (max dp d)) ∧ Blk W g4 26 (ndC x) ∧ MapIs W gm kK bdV kindsM) w6 from ⟨HS5.out.1.keepO ho (fun e => HG7.out.1 e.symm), HS5.out.2.1.keepO ho (fun e => HG7.out.2.1 e.symm), HS5.out.2.2.keep (ho.block gm HS5.out.2.2.lt (map_ne HS5.out.2.2 HBD5.out))⟩)
  have HO6 := Lib.hid (show Only (· = gl) w w6 from HO5.out.trans (T := (· = g7)) ho (fun i hi h => by have := HG7.out.2.2; subst h; omega))
  clear hb hx hs hk ho
  refine ⟨HS6.out, ?_⟩
  try simp only [Act.put, List.setIfInBounds_toArray, List.set_cons_succ, List.set_cons_zero]
  refine held_one 12 rfl (by kernel_rfl) ?_
  refine step_val rfl (v := .bool true) (w' := w6) (by kernel_rfl) ?_
  refine ⟨HS6.out, ?_⟩
  try simp only [Act.put, List.setIfInBounds_toArray, List.set_cons_succ, List.set_cons_zero]
  refine held_end (by kernel_rfl) ?_
  by_cases c1 : 200 < n + 1
  ·have dc1 : decide (200 < (n : Int) + 1) = true := by simp; omega
   have HR := Lib.hid (look_nodes (t := .mk k b l) (d := d) c1)
   go_wp2_with (first | (with_reducible refine wpList_loadL (LkL.of_blk HS6.out.1).nodes rfl _ rfl rfl ?_) | (with_reducible refine wpList_loadL (NdL.of_blk HS6.out.2.1).bytes rfl _ rfl rfl ?_) | (with_reducible refine wpList_loadL (NdL.of_blk HS6.out.2.1).kids rfl _ rfl rfl ?_) | (with_reducible refine wpList_loadL (BdL.of_blk HBD6.out).least rfl _ rfl rfl ?_) | (with_reducible refine wpList_loadL (BdL.of_blk HBD6.out).most rfl _ rfl rfl ?_) | (with_reducible refine wpList_loadL (BdL.of_blk HBD6.out).kids rfl _ rfl rfl ?_))
   go_ret
   exact FIN.out _ HO6.out HR.out
  ·have dc1 : decide (200 < (n : Int) + 1) = false := by simp; omega
   by_cases c2 : 8 < d
   ·have dc2 : decide (8 < (d : Int)) = true := by simp; omega
    have HR := Lib.hid (look_deep (t := .mk k b l) (n := n) c2)
    go_wp2_with (first | (with_reducible refine wpList_loadL (LkL.of_blk HS6.out.1).nodes rfl _ rfl rfl ?_) | (with_reducible refine wpList_loadL (NdL.of_blk HS6.out.2.1).bytes rfl _ rfl rfl ?_) | (with_reducible refine wpList_loadL (NdL.of_blk HS6.out.2.1).kids rfl _ rfl rfl ?_) | (with_reducible refine wpList_loadL (BdL.of_blk HBD6.out).least rfl _ rfl rfl ?_) | (with_reducible refine wpList_loadL (BdL.of_blk HBD6.out).most rfl _ rfl rfl ?_) | (with_reducible refine wpList_loadL (BdL.of_blk HBD6.out).kids rfl _ rfl rfl ?_))
    go_ret
    exact FIN.out _ HO6.out HR.out
   ·have dc2 : decide (8 < (d : Int)) = false := by simp; omega
    by_cases c3 : (b.length : Int) < bd.1
    ·have dc3 : decide ((b.length : Int) < bd.1) = true := by simpa using c3
     have HR := Lib.hid (look_alone (n := n) (d := d) (by rw [HAL.out, show decide (bd.1 ≤ (b.length : Int)) = false by simp; omega]; rfl))
     go_wp2_with (first | (with_reducible refine wpList_loadL (LkL.of_blk HS6.out.1).nodes rfl _ rfl rfl ?_) | (with_reducible refine wpList_loadL (NdL.of_blk HS6.out.2.1).bytes rfl _ rfl rfl ?_) | (with_reducible refine wpList_loadL (NdL.of_blk HS6.out.2.1).kids rfl _ rfl rfl ?_) | (with_reducible refine wpList_loadL (BdL.of_blk HBD6.out).least rfl _ rfl rfl ?_) | (with_reducible refine wpList_loadL (BdL.of_blk HBD6.out).most rfl _ rfl rfl ?_) | (with_reducible refine wpList_loadL (BdL.of_blk HBD6.out).kids rfl _ rfl rfl ?_))
     go_ret
     exact FIN.out _ HO6.out HR.out
    ·have dc3 : decide ((b.length : Int) < bd.1) = false := by simpa using c3
     by_cases c4 : bd.2.1 < (b.length : Int)
     ·have dc4 : decide (bd.2.1 < (b.length : Int)) = true := by simpa using c4
      have HR := Lib.hid (look_alone (n := n) (d := d) (by rw [HAL.out, show decide ((b.length : Int) ≤ bd.2.1) = false by simp; omega, Bool.false_and, Bool.and_false]))
      go_wp2_with (first | (with_reducible refine wpList_loadL (LkL.of_blk HS6.out.1).nodes rfl _ rfl rfl ?_) | (with_reducible refine wpList_loadL (NdL.of_blk HS6.out.2.1).bytes rfl _ rfl rfl ?_) | (with_reducible refine wpList_loadL (NdL.of_blk HS6.out.2.1).kids rfl _ rfl rfl ?_) | (with_reducible refine wpList_loadL (BdL.of_blk HBD6.out).least rfl _ rfl rfl ?_) | (with_reducible refine wpList_loadL (BdL.of_blk HBD6.out).most rfl _ rfl rfl ?_) | (with_reducible refine wpList_loadL (BdL.of_blk HBD6.out).kids rfl _ rfl rfl ?_))
      go_ret
      exact FIN.out _ HO6.out HR.out
     ·have dc4 : decide (bd.2.1 < (b.length : Int)) = false := by simpa using c4
      by_cases c5 : 200 < l.length
      ·have dc5 : decide (200 < (l.length : Int)) = true := by simp; omega
       have HR := Lib.hid (look_alone (n := n) (d := d) (by rw [HAL.out, show decide (l.length ≤ 200) = false by simp; omega, Bool.false_and, Bool.and_false, Bool.and_false]))
       go_wp2_with (first | (with_reducible refine wpList_loadL (LkL.of_blk HS6.out.1).nodes rfl _ rfl rfl ?_) | (with_reducible refine wpList_loadL (NdL.of_blk HS6.out.2.1).bytes rfl _ rfl rfl ?_) | (with_reducible refine wpList_loadL (NdL.of_blk HS6.out.2.1).kids rfl _ rfl rfl ?_) | (with_reducible refine wpList_loadL (BdL.of_blk HBD6.out).least rfl _ rfl rfl ?_) | (with_reducible refine wpList_loadL (BdL.of_blk HBD6.out).most rfl _ rfl rfl ?_) | (with_reducible refine wpList_loadL (BdL.of_blk HBD6.out).kids rfl _ rfl rfl ?_))
       go_ret
       exact FIN.out _ HO6.out HR.out
      ·have dc5 : decide (200 < (l.length : Int)) = false := by simp; omega
       by_cases c6 : bd.2.2 = false ∧ 0 < l.length
       ·have c6a := c6.1
        have dc6 : decide (0 < (l.length : Int)) = true := by have := c6.2; simp; omega
        have HR := Lib.hid (look_alone (n := n) (d := d) (by rw [HAL.out, show (bd.2.2 || l.isEmpty) = false by rw [c6.1]; have := c6.2; cases l <;> simp_all, Bool.false_and, Bool.and_false, Bool.and_false, Bool.and_false]))
        go_wp2_with (first | (with_reducible refine wpList_loadL (LkL.of_blk HS6.out.1).nodes rfl _ rfl rfl ?_) | (with_reducible refine wpList_loadL (NdL.of_blk HS6.out.2.1).bytes rfl _ rfl rfl ?_) | (with_reducible refine wpList_loadL (NdL.of_blk HS6.out.2.1).kids rfl _ rfl rfl ?_) | (with_reducible refine wpList_loadL (BdL.of_blk HBD6.out).least rfl _ rfl rfl ?_) | (with_reducible refine wpList_loadL (BdL.of_blk HBD6.out).most rfl _ rfl rfl ?_) | (with_reducible refine wpList_loadL (BdL.of_blk HBD6.out).kids rfl _ rfl rfl ?_))
        go_ret
        exact FIN.out _ HO6.out HR.out
       ·have HC6 := Lib.hid (show (bd.2.2 || l.isEmpty) = true by
         cases h1 : bd.2.2 with
         | true => rfl
         | false => cases l with | nil => rfl | cons y l => exact absurd ⟨h1, by simp⟩ c6)
        have HW6 := Lib.hid (show Below w0.heap.size w w6 from HO6.out.below (by have := HX0.out.size; exact this) (fun i hi => by subst hi; exact hgl))
        have HX6 := Lib.hid (HX0.out.trans HW6.out)
        obtain ⟨nb, hnb⟩ : ∃ nb, named none l = nb := ⟨_, rfl⟩
        have HNC := Lib.hid (show Calls Tryz.prog 124 #[x.2.2.1] w6 fun e w' => e = .returned (.bool nb) ∧ Below w6.heap.size w6 w' by have := named_any x.2.2.1 ks l (by omega) w6 (HSL.out.below HX6.out) HKN.out; rwa [hnb] at this)
        have HNB := Lib.hid hnb
        clear hnb
        have hkb : bd.2.2 = true ∨ (bd.2.2 = false ∧ decide (0 < (l.length : Int)) = false ∧ decide (0 < l.length) = false) := by
         have := HC6.out
         cases h1 : bd.2.2 with
         | true => exact .inl rfl
         | false =>
          rw [h1, Bool.false_or] at this
          refine .inr ⟨rfl, ?_⟩
          cases l with
          | nil => exact ⟨rfl, rfl⟩
          | cons y l => simp at this
        have hlt0 := HW6.out.size
        rcases hkb with hkb | ⟨hkb, hl0, hl1⟩
        ·go_wp2_with (first | (with_reducible refine wpList_loadL (LkL.of_blk HS6.out.1).nodes rfl _ rfl rfl ?_) | (with_reducible refine wpList_loadL (NdL.of_blk HS6.out.2.1).bytes rfl _ rfl rfl ?_) | (with_reducible refine wpList_loadL (NdL.of_blk HS6.out.2.1).kids rfl _ rfl rfl ?_) | (with_reducible refine wpList_loadL (BdL.of_blk HBD6.out).least rfl _ rfl rfl ?_) | (with_reducible refine wpList_loadL (BdL.of_blk HBD6.out).most rfl _ rfl rfl ?_) | (with_reducible refine wpList_loadL (BdL.of_blk HBD6.out).kids rfl _ rfl rfl ?_))
         refine HNC.out.mono ?_
         rintro e w7 ⟨rfl, hx7⟩
         have HO7 := Lib.hid (HO6.out.new hx7)
         have HS7 := Lib.hid (And.intro (HS6.out.1.below hx7) (And.intro (HS6.out.2.1.below hx7) (HS6.out.2.2.keep (hx7.block gm HS6.out.2.2.lt))))
         clear hx7
         cases nb with
         | false =>
          have HR := Lib.hid (look_alone (n := n) (d := d) (by rw [HAL.out, HNB.out, Bool.and_false, Bool.and_false, Bool.and_false, Bool.and_false]))
          go_wp2_with fail
          go_ret
          exact FIN.out _ HO7.out HR.out
         | true =>
          have HAT := Lib.hid (show alone (.mk k b l) = true by
           rw [HAL.out, HC6.out, HNB.out, show decide (bd.1 ≤ (b.length : Int)) = true by simp; omega, show decide ((b.length : Int) ≤ bd.2.1) = true by simp; omega, show decide (l.length ≤ 200) = true by simp; omega]; rfl)
          go_wp2_with (first | (with_reducible refine wpList_loadL (NdL.of_blk HS7.out.2.1).kids rfl _ rfl rfl ?_))
          go_loopw [81] (fun i wr => ∃ q : Nat, q ≤ l.length ∧ i = .int .i64 (q : Int) ∧ okL (l.take q) = true ∧ n + 1 + countL (l.take q) ≤ 200 ∧ d + deepL (l.take q) ≤ 8 ∧ Blk wr gl 142 (lkC gm (n + 1 + countL (l.take q)) (max (max dp d) (d + deepL (l.take q)))) ∧ MapIs wr gm kK bdV kindsM ∧ Only (· = gl) w wr) (fun i _ => l.length - (intOf i).toNat)
          case atStart => exact ⟨0, by omega, rfl, rfl, by simp [countL] <;> omega, by simp [deepL] <;> omega, by have h := HS7.out.1; rw [show max (max dp d) (d + deepL (l.take 0)) = max dp d by simp [deepL] <;> omega]; simpa [countL] using h, HS7.out.2.2, HO7.out⟩
          case round =>
           obtain ⟨w8, rfl⟩ : ∃ w8 : World, w8 = wr := ⟨_, rfl⟩
           obtain ⟨q, hq, rfl, hok, hnc, hdd, hbl, hmp, ho8⟩ := hrel
           have HOK := Lib.hid hok
           have HL := Lib.hid hbl
           have HM := Lib.hid hmp
           have HO := Lib.hid ho8
           have HWr := Lib.hid (show Below w0.heap.size w w8 from HO.out.below (by have := HX0.out.size; exact this) (fun i hi => by subst hi; exact hgl))
           have HXr := Lib.hid (HX0.out.trans HWr.out)
           clear hok hbl hmp ho8
           by_cases hlt : q < l.length
           ·have hlq : decide ((q : Int) < (l.length : Int)) = true := by simp; omega
            obtain ⟨z, hzk⟩ : ∃ z, l[q]? = some z := ⟨_, List.getElem?_eq_getElem hlt⟩
            obtain ⟨y, hyk, _, hyn⟩ := HKV.out.at_ q z hzk
            obtain ⟨p, hadr, hle⟩ := kid_at (HSL.out.below HXr.out) q y hyk
            have HE := Lib.hid hle.all
            have HZ := Lib.hid hzk
            have HYN := Lib.hid hyn
            have hcz : count z.2 ≤ N := by
             have h1 := countL_mem (List.mem_of_getElem? hzk)
             have h2 := HC.out
             simp only [count] at h2
             omega
            clear hle hyk hyn hzk
            go_wp2_with (first | (with_reducible refine wpList_loadL HE.out rfl _ rfl rfl ?_) | (refine wpList_new rfl rfl rfl 28 10 84 rfl rfl rfl (by decide) (kdC kdZ) (kdC y) kd_zero rfl (kd_info y) (kdC_one y) rfl (by first | (simp; done) | simp [Act.put]) ?_; intro g9 wa hb hx hg; have HY := Lib.hid (kid_node hb); have HLa := Lib.hid (HL.out.below hx); have HMa := Lib.hid (HM.out.keep (hx.block gm HM.out.lt)); have HOa := Lib.hid (HO.out.new hx); clear hb hx hg) | (with_reducible refine wpList_loadL HY.out rfl _ rfl rfl ?_))
            obtain ⟨lb, hlb2⟩ : ∃ lb, lookB z.2 (n + 1 + countL (l.take q)) (d + 1) = lb := ⟨_, rfl⟩
            have hcall := HIH.out z.2 hcz (.agg (ndC y.2)) w0 wa gl gm (n + 1 + countL (l.take q)) (d + 1) _ (by omega) (by omega) (by omega) ⟨y.2, rfl, HYN.out⟩ (HX0.out.trans (HOa.out.below (by have := HX0.out.size; exact this) (fun i hi => by subst hi; exact hgl))) hgl HLa.out HMa.out
            rw [hlb2, show ((d + 1 : Nat) : Int) = (d : Int) + 1 by omega] at hcall
            have HLB := Lib.hid hlb2
            clear hlb2 HE hadr
            refine hcall.mono ?_
            rintro e wb ⟨rfl, hob, hbb⟩
            have HOb := Lib.hid (HOa.out.more hob)
            have HMb := Lib.hid (map_keepO HMa.out hob HNE.out)
            have HBb := Lib.hid hbb
            clear hcall hob hbb
            cases lb with
            | false =>
             have HR := Lib.hid (look_kid (t := .mk k b l) (n := n) (d := d) HZ.out HLB.out)
             go_wp2_with fail
             go_ret
             exact FIN.out _ HOb.out HR.out
            | true =>
             have HPA := Lib.hid (look_parts HLB.out)
             go_wp2_with fail
             go_roundw
             case rel => exact ⟨q + 1, by omega, by go_num, by rw [okL_snoc HZ.out, HOK.out, HPA.out.1]; rfl, by rw [countL_snoc HZ.out]; have := HPA.out.2.1; omega, by rw [deepL_snoc HZ.out]; have := HPA.out.2.2; omega, by
              have h := HBb.out trivial
              rw [countL_snoc HZ.out, deepL_snoc HZ.out]
              rw [show n + 1 + (countL (l.take q) + count z.2) = n + 1 + countL (l.take q) + count z.2 by omega, show max (max dp d) (d + max (deepL (l.take q)) (deep z.2)) = max (max (max dp d) (d + deepL (l.take q))) (d + 1 - 1 + deep z.2) by omega]
              exact h, HMb.out, HOb.out⟩
             case measure => simp [intOf]; omega
           ·obtain rfl : q = l.length := by omega
            have hlq : decide (((l.length : Nat) : Int) < ((l.length : Nat) : Int)) = false := by simp
            have hok2 := HOK.out
            have hbl2 := HL.out
            rw [List.take_length] at hnc hdd hok2 hbl2
            have HBL := Lib.hid (show Blk w8 gl 142 (lkC gm (n + count (.mk k b l)) (max dp (d - 1 + deep (.mk k b l)))) by
             have e1 : n + count (.mk k b l) = n + 1 + countL l := by simp only [count]; omega
             have e2 : max dp (d - 1 + deep (.mk k b l)) = max (max dp d) (d + deepL l) := by simp only [deep]; omega
             rw [e1, e2]; exact hbl2)
            have HR := Lib.hid (look_all (t := .mk k b l) (n := n) (d := d) HAT.out hnc (by show d + deepL l + 1 ≤ 9; omega) hok2)
            clear hok2 hbl2
            go_wp2_with fail
            go_ret
            exact ⟨ret_bool HR.out.symm, HO.out, fun _ => HBL.out⟩
        ·go_wp2_with (first | (with_reducible refine wpList_loadL (LkL.of_blk HS6.out.1).nodes rfl _ rfl rfl ?_) | (with_reducible refine wpList_loadL (NdL.of_blk HS6.out.2.1).bytes rfl _ rfl rfl ?_) | (with_reducible refine wpList_loadL (NdL.of_blk HS6.out.2.1).kids rfl _ rfl rfl ?_) | (with_reducible refine wpList_loadL (BdL.of_blk HBD6.out).least rfl _ rfl rfl ?_) | (with_reducible refine wpList_loadL (BdL.of_blk HBD6.out).most rfl _ rfl rfl ?_) | (with_reducible refine wpList_loadL (BdL.of_blk HBD6.out).kids rfl _ rfl rfl ?_))
         refine HNC.out.mono ?_
         rintro e w7 ⟨rfl, hx7⟩
         have HO7 := Lib.hid (HO6.out.new hx7)
         have HS7 := Lib.hid (And.intro (HS6.out.1.below hx7) (And.intro (HS6.out.2.1.below hx7) (HS6.out.2.2.keep (hx7.block gm HS6.out.2.2.lt))))
         clear hx7
         cases nb with
         | false =>
          have HR := Lib.hid (look_alone (n := n) (d := d) (by rw [HAL.out, HNB.out, Bool.and_false, Bool.and_false, Bool.and_false, Bool.and_false]))
          go_wp2_with fail
          go_ret
          exact FIN.out _ HO7.out HR.out
         | true =>
          have HAT := Lib.hid (show alone (.mk k b l) = true by
           rw [HAL.out, HC6.out, HNB.out, show decide (bd.1 ≤ (b.length : Int)) = true by simp; omega, show decide ((b.length : Int) ≤ bd.2.1) = true by simp; omega, show decide (l.length ≤ 200) = true by simp; omega]; rfl)
          go_wp2_with (first | (with_reducible refine wpList_loadL (NdL.of_blk HS7.out.2.1).kids rfl _ rfl rfl ?_))
          go_loopw [81] (fun i wr => ∃ q : Nat, q ≤ l.length ∧ i = .int .i64 (q : Int) ∧ okL (l.take q) = true ∧ n + 1 + countL (l.take q) ≤ 200 ∧ d + deepL (l.take q) ≤ 8 ∧ Blk wr gl 142 (lkC gm (n + 1 + countL (l.take q)) (max (max dp d) (d + deepL (l.take q)))) ∧ MapIs wr gm kK bdV kindsM ∧ Only (· = gl) w wr) (fun i _ => l.length - (intOf i).toNat)
          case atStart => exact ⟨0, by omega, rfl, rfl, by simp [countL] <;> omega, by simp [deepL] <;> omega, by have h := HS7.out.1; rw [show max (max dp d) (d + deepL (l.take 0)) = max dp d by simp [deepL] <;> omega]; simpa [countL] using h, HS7.out.2.2, HO7.out⟩
          case round =>
           obtain ⟨w8, rfl⟩ : ∃ w8 : World, w8 = wr := ⟨_, rfl⟩
           obtain ⟨q, hq, rfl, hok, hnc, hdd, hbl, hmp, ho8⟩ := hrel
           have HOK := Lib.hid hok
           have HL := Lib.hid hbl
           have HM := Lib.hid hmp
           have HO := Lib.hid ho8
           have HWr := Lib.hid (show Below w0.heap.size w w8 from HO.out.below (by have := HX0.out.size; exact this) (fun i hi => by subst hi; exact hgl))
           have HXr := Lib.hid (HX0.out.trans HWr.out)
           clear hok hbl hmp ho8
           by_cases hlt : q < l.length
           ·have hlq : decide ((q : Int) < (l.length : Int)) = true := by simp; omega
            obtain ⟨z, hzk⟩ : ∃ z, l[q]? = some z := ⟨_, List.getElem?_eq_getElem hlt⟩
            obtain ⟨y, hyk, _, hyn⟩ := HKV.out.at_ q z hzk
            obtain ⟨p, hadr, hle⟩ := kid_at (HSL.out.below HXr.out) q y hyk
            have HE := Lib.hid hle.all
            have HZ := Lib.hid hzk
            have HYN := Lib.hid hyn
            have hcz : count z.2 ≤ N := by
             have h1 := countL_mem (List.mem_of_getElem? hzk)
             have h2 := HC.out
             simp only [count] at h2
             omega
            clear hle hyk hyn hzk
            go_wp2_with (first | (with_reducible refine wpList_loadL HE.out rfl _ rfl rfl ?_) | (refine wpList_new rfl rfl rfl 28 10 84 rfl rfl rfl (by decide) (kdC kdZ) (kdC y) kd_zero rfl (kd_info y) (kdC_one y) rfl (by first | (simp; done) | simp [Act.put]) ?_; intro g9 wa hb hx hg; have HY := Lib.hid (kid_node hb); have HLa := Lib.hid (HL.out.below hx); have HMa := Lib.hid (HM.out.keep (hx.block gm HM.out.lt)); have HOa := Lib.hid (HO.out.new hx); clear hb hx hg) | (with_reducible refine wpList_loadL HY.out rfl _ rfl rfl ?_))
            obtain ⟨lb, hlb2⟩ : ∃ lb, lookB z.2 (n + 1 + countL (l.take q)) (d + 1) = lb := ⟨_, rfl⟩
            have hcall := HIH.out z.2 hcz (.agg (ndC y.2)) w0 wa gl gm (n + 1 + countL (l.take q)) (d + 1) _ (by omega) (by omega) (by omega) ⟨y.2, rfl, HYN.out⟩ (HX0.out.trans (HOa.out.below (by have := HX0.out.size; exact this) (fun i hi => by subst hi; exact hgl))) hgl HLa.out HMa.out
            rw [hlb2, show ((d + 1 : Nat) : Int) = (d : Int) + 1 by omega] at hcall
            have HLB := Lib.hid hlb2
            clear hlb2 HE hadr
            refine hcall.mono ?_
            rintro e wb ⟨rfl, hob, hbb⟩
            have HOb := Lib.hid (HOa.out.more hob)
            have HMb := Lib.hid (map_keepO HMa.out hob HNE.out)
            have HBb := Lib.hid hbb
            clear hcall hob hbb
            cases lb with
            | false =>
             have HR := Lib.hid (look_kid (t := .mk k b l) (n := n) (d := d) HZ.out HLB.out)
             go_wp2_with fail
             go_ret
             exact FIN.out _ HOb.out HR.out
            | true =>
             have HPA := Lib.hid (look_parts HLB.out)
             go_wp2_with fail
             go_roundw
             case rel => exact ⟨q + 1, by omega, by go_num, by rw [okL_snoc HZ.out, HOK.out, HPA.out.1]; rfl, by rw [countL_snoc HZ.out]; have := HPA.out.2.1; omega, by rw [deepL_snoc HZ.out]; have := HPA.out.2.2; omega, by
              have h := HBb.out trivial
              rw [countL_snoc HZ.out, deepL_snoc HZ.out]
              rw [show n + 1 + (countL (l.take q) + count z.2) = n + 1 + countL (l.take q) + count z.2 by omega, show max (max dp d) (d + max (deepL (l.take q)) (deep z.2)) = max (max (max dp d) (d + deepL (l.take q))) (d + 1 - 1 + deep z.2) by omega]
              exact h, HMb.out, HOb.out⟩
             case measure => simp [intOf]; omega
           ·obtain rfl : q = l.length := by omega
            have hlq : decide (((l.length : Nat) : Int) < ((l.length : Nat) : Int)) = false := by simp
            have hok2 := HOK.out
            have hbl2 := HL.out
            rw [List.take_length] at hnc hdd hok2 hbl2
            have HBL := Lib.hid (show Blk w8 gl 142 (lkC gm (n + count (.mk k b l)) (max dp (d - 1 + deep (.mk k b l)))) by
             have e1 : n + count (.mk k b l) = n + 1 + countL l := by simp only [count]; omega
             have e2 : max dp (d - 1 + deep (.mk k b l)) = max (max dp d) (d + deepL l) := by simp only [deep]; omega
             rw [e1, e2]; exact hbl2)
            have HR := Lib.hid (look_all (t := .mk k b l) (n := n) (d := d) HAT.out hnc (by show d + deepL l + 1 ≤ 9; omega) hok2)
            clear hok2 hbl2
            go_wp2_with fail
            go_ret
            exact ⟨ret_bool HR.out.symm, HO.out, fun _ => HBL.out⟩
set_option maxRecDepth 100000 in
set_option maxHeartbeats 4000000 in
theorem looked_any (v : Value) (t : T) (w : World) (hv : NodeAt w v t) :
  Calls Tryz.prog 48 #[v] w fun e w' => ∃ g gm, e = .returned (.tuple #[.pointer (some ⟨g, 0, none⟩), .bool (right t)]) ∧ Below w.heap.size w w' ∧ (right t = true → Blk w' g 142 (lkC gm (count t) (deep t))) := by
 obtain ⟨x, rfl, hx⟩ := hv
 have HN := Lib.hid hx
 clear hx
 have hbl := fun gm W => (by kernel_rfl : (Instr.build 142 #[(0, .map (some gm))]).run Tryz.prog W = .ok (.agg (lkC gm 0 0)) W)
 have HBL := Lib.hid hbl
 clear hbl
 go_enter Tryz.func48, Tryz.ntmps48
 go_wp2_with (first | (refine wpList_box rfl 26 _ rfl (ndC x) rfl ?_; intro g1 w1 hb hx hg; have HB1 := Lib.hid hb; have HX1 := Lib.hid hx; clear hb hx hg))
 refine (kinds_any w1).mono ?_
 rintro e w2 ⟨gm, rfl, hgm, hm, hx⟩
 have HM2 := Lib.hid hm
 have HB2 := Lib.hid (HB1.out.below hx)
 have HX2 := Lib.hid (belowThen HX1.out (Nat.le_refl _) hx)
 clear hm hx hgm
 go_wp2_with (first | (with_reducible refine wpList_build1 142 0 _ rfl rfl (.map (some gm)) rfl (.agg (lkC gm 0 0)) (HBL.out gm) ?_) | (refine wpList_box rfl 142 _ rfl (lkC gm 0 0) rfl ?_; intro g3 w3 hb hx hg; have HL3 := Lib.hid hb; have HM3 := Lib.hid (HM2.out.keep (hx.block gm HM2.out.lt)); have HB3 := Lib.hid (HB2.out.below hx); have HX3 := Lib.hid (belowThen HX2.out (Nat.le_refl _) hx); have HG3 := Lib.hid (Nat.le_trans HX2.out.size hg); clear hb hx hg) | (with_reducible refine wpList_loadL (NdL.of_blk HB3.out).all rfl _ rfl rfl ?_))
 refine (right_any (count t) t (Nat.le_refl _) (.agg (ndC x)) w w3 g3 gm 0 1 0 (by omega) (by omega) (by omega) ⟨x, rfl, HN.out⟩ HX3.out HG3.out HL3.out HM3.out).mono ?_
 rintro e w4 ⟨rfl, ho, hb⟩
 have HX4 := Lib.hid (HX3.out.trans (ho.below HX3.out.size (fun i hi => by subst hi; exact HG3.out)))
 have HB4 := Lib.hid hb
 clear ho hb
 go_wp2_with fail
 go_ret2
 exact ⟨g3, gm, rfl, HX4.out, fun h => by
  have := HB4.out h
  rwa [show 0 + count t = count t by omega, show max 0 (1 - 1 + deep t) = deep t by omega] at this⟩
set_option maxRecDepth 100000 in
set_option maxHeartbeats 4000000 in
theorem tright_any (v : Value) (t : T) (w : World) (hv : NodeAt w v t) :
  Calls Tryz.prog 32 #[v] w fun e w' => e = .returned (.bool (right t)) ∧ Below w.heap.size w w' := by
 obtain ⟨x, rfl, hx⟩ := hv
 have HN := Lib.hid hx
 clear hx
 go_enter Tryz.func32, Tryz.ntmps32
 go_wp2_with (first | (refine wpList_box rfl 26 _ rfl (ndC x) rfl ?_; intro g1 w1 hb hx hg; have HB1 := Lib.hid hb; have HX1 := Lib.hid hx; clear hb hx hg) | (with_reducible refine wpList_loadL (NdL.of_blk HB1.out).all rfl _ rfl rfl ?_))
 refine (looked_any (.agg (ndC x)) t w1 ⟨x, rfl, HN.out.below HX1.out⟩).mono ?_
 rintro e w2 ⟨g, gm, rfl, hx, _⟩
 have HX2 := Lib.hid (belowThen HX1.out (Nat.le_refl _) hx)
 clear hx
 go_wp2_with fail
 go_ret
 exact ⟨rfl, HX2.out⟩
end Go.Proofs.YtfiadgdinhmgbaaGreatDoor
/-! A cut behind a region: what it leaves, said once for all orders. -/
namespace Go.Agg
open Go.RowKit
variable {P : Program}
def ExPut : List Nat → Act → Act → Prop
 | [], a, a' => a' = a
 | k :: ks, a, a' => ∃ x, ExPut ks (a.put (some k) x) a'
theorem wp_cutR {c : Code} {Q : Exit → Act → World → Prop} {a : Act} {w : World} (R : Act → Act → World → Prop) (h1 : c.wp P (fun e a' w' => match e with | .normal => R a a' w' | _ => False) a w)
  (h2 : ∀ a' w', R a a' w' → Q .normal a' w') : c.wp P Q a w :=
 Code.wp_mono (fun e a' w' h => by
  cases e
  case normal => exact h2 a' w' h
  all_goals exact False.elim h) h1
section
variable {l : List Oper} {md : Region.Mode} {Q : Exit → Act → World → Prop} {S : World → Prop} {fuel : Nat} {listed : Array Bool} {a : Act} {w : World}
theorem held_skip {o : Oper} (i : Nat) (ho : l[i]? = some o) (hB : takeB md l listed i = true) (hQ : ∀ c a w, Q (.panic c) (a.put o.dst undef) w → Q (.panic c) a w) (hw : Region.wanted o (yielded l.toArray a.tmps) = false)
  (hS : S w) (h : wpAnyH P md l.toArray Q S fuel (listed.setIfInBounds i true) (a.put o.dst undef) w) : wpAnyH P md l.toArray Q S (fuel + 1) listed a w := by
 simp only [takeB, Bool.and_eq_true] at hB
 exact wpAnyH_take (by simpa using ho) hB.1.1 hB.1.2 hB.2 hQ (.inr ⟨hw, rfl⟩) hS h
end
end Go.Agg
/-! Regions that draw their order, in which a maker takes texts. -/
namespace Go.Agg
open Go.RowKit
theorem exec_loadC {P : Program} {o : Oper} {a : Act} {w : World} {ty : TypeId} {x : Operand} {p v : Value} (ho : o.op = .load ty x) (hx : a.eval x = p) (hrun : (Instr.loadAt ty p).run P w = .ok v w) : (execOp a.eval o).run P w = .ok (.value v) w := by simp [execOp, ho, hx, hrun]
theorem exec_lenC {P : Program} {o : Oper} {a : Act} {w : World} {st : TypeId} {x : Operand} {v r : Value} (ho : o.op = .call { callee := .builtin .len, args := #[x], argTypes := #[st] }) (hx : a.eval x = v) (hrun : (Builtin.len_ #[st] o.type #[v]).run P w = .ok r w) : (execOp a.eval o).run P w = .ok (.value r) w := by
 simp [execOp, ho, resolve, invoke, builtin, hx, hrun]
theorem exec_build0C {P : Program} {o : Oper} {a : Act} {w : World} {ty : TypeId} {v : Value} (ho : o.op = .build ty #[]) (hrun : (Instr.build ty #[]).run P w = .ok v w) : (execOp a.eval o).run P w = .ok (.value v) w := by simp [execOp, ho, hrun]
theorem Blk.onlyC {w w' : World} {S : Nat → Prop} {g : Nat} {t : TypeId} {cs : Array Value} (h : Blk w g t cs) (ho : Only S w w') (hS : ¬ S g) : Blk w' g t cs := (ho.block g h.lt hS).trans h
end Go.Agg
namespace Go.Proofs.YtfiadgdinhmgbaaGreatDoor
open Go.RowKit Pl Go.Agg
theorem mk_keeps {g b2 : Nat} {w w' : World} {v v' : Value} {cs : Array Value} {l : List UInt8} {t : TypeId} (hm : MkV g w v l) (hb : Blk w b2 t cs) (ht : t ≠ 5) (hs : MkStep g w w' v v') (hne : b2 ≠ g) : Blk w' b2 t cs :=
 hb.onlyC hs.only fun h => h.elim hne fun e => by
  obtain ⟨_, cur, hc⟩ := hm.own.block _ e
  unfold Blk at hb
  rw [hb] at hc
  injection hc with hc
  injection hc with _ h2
  exact ht h2
theorem newBytes_ownB {w w' : World} {v : Value} {s : List UInt8} (h : NewBytes w w' v s) : ∀ k, v.ownBlock = some k → w.heap.size ≤ k := by
 obtain ⟨cap, fr, rfl, _, _, _⟩ := h
 intro k hk
 obtain rfl : w.heap.size = k := by simpa [Value.ownBlock] using hk
 exact Nat.le_refl _
theorem bytes_svB {w : World} {v : Value} {l : List UInt8} (h : BytesAt w v l) : ∃ s : SV, v = s.1 := by
 obtain ⟨p, c, hf⟩ := h.form
 exact ⟨⟨v, p, _, c, hf⟩, rfl⟩
theorem step_toBytes {ops : Array Oper} {o : Oper} {a : Act} {w : World} {Q : Exit → Act → World → Prop} {K : Act → World → Prop} {F : Prop} (hg : o.guard = none) (x : Operand) (ho : o.op = .convert 9 23 x) (s : List UInt8) (hx : a.eval x = .string ⟨s.toArray⟩)
  (h : ∀ v' w', NewBytes w w' v' s → Below w.heap.size w w' → K (a.put o.dst v') w') : if Region.wanted o (yielded ops a.tmps) = true then o.wp Tryz.prog a w K Q else F := by
 obtain ⟨v', w', hr, h1, h2⟩ := run_toBytes w s
 exact step_val hg (v := v') (w' := w') (by simp [execOp, ho, hx, hr]) (h v' w' h1 h2)
theorem maker_build (w : World) : (Instr.build 109 #[]).run Tryz.prog w = .ok (.agg (mkC (.slice none 0 0))) w := by kernel_rfl
theorem hash_slice {w : World} {b i : Nat} {t : TypeId} {cs : Array Value} {h : List UInt8} (hb : Blk w b t cs) (hl : h.length = 20) (hc : ∀ j v, (hC h)[j]? = some v → cs[i + j]? = some v) : SliceOf EB w (.slice (some ⟨b, i, none⟩) 20 20) h := by
 refine .inr ⟨_, 20, by rw [hl], hb.lt, fun j v hj => ?_⟩
 rw [add_plain, hb.cell]
 refine hc j v ?_
 rw [flat_bytes] at hj
 simpa [hC] using hj
end Go.Proofs.YtfiadgdinhmgbaaGreatDoor
/-! Archives, as chapter 9 asks: what Pack and Open answer; a byte less, or more; an archive within another one. No program in sight. -/
namespace Go.Tr
open Go.Proofs.YtfiadgdinhmgbaaGreatDoor Go.Agg
def zT : T := .mk 0 [] []
def pkE (t : T) : Nat := if right t then (if (packB t).length ≤ 4096 then 0 else 3) else 2
def pkB (t : T) : List UInt8 := if pkE t = 0 then packB t else []
def pkN (t : T) : Nat := if right t then (packB t).length else 0
def opE (b : List UInt8) : Nat := if b.length ≤ 4096 then (if (openT b).isSome then 0 else 4) else 3
def opT (b : List UInt8) : T := if opE b = 0 then (openT b).getD zT else zT
theorem pkE_zero {t : T} : pkE t = 0 ↔ right t = true ∧ (packB t).length ≤ 4096 := by
 unfold pkE
 by_cases h : right t = true
 ·rw [if_pos h]
  by_cases hl : (packB t).length ≤ 4096
  ·rw [if_pos hl]; exact ⟨fun _ => ⟨h, hl⟩, fun _ => rfl⟩
  ·rw [if_neg hl]; exact ⟨fun e => (by cases e), fun e => absurd e.2 hl⟩
 ·rw [if_neg h]; exact ⟨fun e => (by cases e), fun e => absurd e.1 h⟩
theorem pkE_size {t : T} : decide (pkE t = 0) = (right t && decide (pkN t ≤ 4096)) := by
 rw [Bool.eq_iff_iff, decide_eq_true_iff, pkE_zero, Bool.and_eq_true, decide_eq_true_iff]
 constructor
 ·rintro ⟨h, hl⟩; exact ⟨h, by rw [pkN, if_pos h]; exact hl⟩
 ·rintro ⟨h, hl⟩; exact ⟨h, by rw [pkN, if_pos h] at hl; exact hl⟩
theorem opE_zero {b : List UInt8} (h : opE b = 0) : b.length ≤ 4096 ∧ openT b = some (opT b) := by
 have h0 := h
 unfold opE at h
 split at h
 ·next hl =>
  split at h
  ·next hs =>
   obtain ⟨t, ht⟩ := Option.isSome_iff_exists.1 hs
   refine ⟨hl, ?_⟩
   rw [opT, if_pos h0, ht]; rfl
  ·cases h
 ·cases h
theorem opE_of {b : List UInt8} {t : T} (hl : b.length ≤ 4096) (h : openT b = some t) : opE b = 0 ∧ opT b = t := by
 have e : opE b = 0 := by simp [opE, hl, h]
 exact ⟨e, by rw [opT, if_pos e, h]; rfl⟩
theorem opT_not {b : List UInt8} (h : opE b ≠ 0) : opT b = zT := by rw [opT, if_neg h]
theorem open_pack {t : T} (h : right t = true) : openT (packB t) = some t := (openT_iff _ _).2 ⟨h, rfl⟩
theorem open_more {t : T} {y : List UInt8} (h : right t = true) (hy : y ≠ []) : openT (packB t ++ y) = none := by
 have hr' := h
 simp only [right, lookB, Bool.and_eq_true, decide_eq_true_eq] at hr'
 have := opn_put 9 t 1 200 y hr'.1.1 (by omega) (by omega) (by omega)
 unfold openT
 rw [this]
 cases y with
 | nil => exact absurd rfl hy
 | cons c y => rfl
theorem encN_ne (n : Nat) : encN n ≠ [] := by
 unfold encN
 split <;> simp
theorem packB_ne (t : T) : packB t ≠ [] := by
 obtain ⟨k, b, l⟩ := t
 unfold packB
 split
 ·intro h; exact encN_ne _ (List.append_eq_nil_iff.1 h).1
 ·intro h; exact encN_ne _ (List.append_eq_nil_iff.1 h).1
theorem open_less {t : T} (h : right t = true) : openT ((packB t).take ((packB t).length - 1)) = none := by
 have hd : (packB t).take ((packB t).length - 1) ++ [(packB t).getLast (packB_ne t)] = packB t := by
  rw [← List.dropLast_eq_take]; exact List.dropLast_concat_getLast _
 cases ho : openT ((packB t).take ((packB t).length - 1)) with
 | none => rfl
 | some u =>
  obtain ⟨h1, h2⟩ := (openT_iff _ _).1 ho
  have := open_more h1 (y := [(packB t).getLast (packB_ne t)]) (by simp)
  rw [h2, hd, open_pack h] at this
  cases this
theorem back_pack {t u : T} (h : pkE t = 0) : opE (pkB t) = 0 ∧ opT (pkB t) = t ∧ (pkB t).length = pkN t ∧ opE ((pkB t).take ((pkB t).length - 1)) = 4 ∧ (∀ c, opE (pkB t ++ [c]) ≠ 0) ∧ (pkE u = 0 → (decide (pkB t = pkB u) = same t u)) := by
 obtain ⟨hr, hl⟩ := pkE_zero.1 h
 have e : pkB t = packB t := by rw [pkB, if_pos h]
 rw [e]
 obtain ⟨g1, g2⟩ := opE_of hl (open_pack hr)
 refine ⟨g1, g2, by rw [pkN, if_pos hr], ?_, fun c hc => ?_, fun hu => ?_⟩
 ·rw [opE, if_pos (by rw [List.length_take]; omega), open_less hr]; rfl
 ·have := (opE_zero hc).2
  rw [open_more hr (by simp)] at this
  cases this
 ·obtain ⟨ur, ul⟩ := pkE_zero.1 hu
  rw [pkB, if_pos hu, Bool.eq_iff_iff, decide_eq_true_iff, same_iff]
  exact ⟨fun e => packB_inj hr ur e, fun e => by rw [e]⟩
theorem back_open {b : List UInt8} (h : opE b = 0) : pkE (opT b) = 0 ∧ right (opT b) = true ∧ pkB (opT b) = b := by
 obtain ⟨hl, ho⟩ := opE_zero h
 obtain ⟨h1, h2⟩ := (openT_iff _ _).1 ho
 have e : pkE (opT b) = 0 := pkE_zero.2 ⟨h1, by rw [h2]; exact hl⟩
 exact ⟨e, h1, by rw [pkB, if_pos e, h2]⟩
theorem packL_in : ∀ {l : List K} {x : K}, x ∈ l → packB x.2 <:+: packL l
 | y :: l, x, h => by
  rw [packL]
  rcases List.mem_cons.1 h with rfl | h
  ·exact ⟨encT x.1, packL l, by simp⟩
  ·obtain ⟨a, c, e⟩ := packL_in h
   exact ⟨encT y.1 ++ (packB y.2 ++ a), c, by rw [← e]; simp⟩
theorem place_kid {l : List K} {n : List UInt8} {x : T} (h : place l n = some x) : ∃ k ∈ l, k.2 = x := by
 simp only [place, Option.map_eq_some_iff] at h
 obtain ⟨k, hk, e⟩ := h
 exact ⟨k, List.mem_of_find?_eq_some hk, e⟩
theorem pack_within : ∀ (ns : List (List UInt8)) (t x : T), ok t = true → find t ns = some x → packB x <:+: packB t
 | [], t, x, _, h => by
  simp only [find] at h
  cases h
  exact List.infix_refl _
 | n :: ns, .mk k b l, x, hok, h => by
  simp only [find] at h
  split at h
  ·cases h
  ·next y hy =>
   obtain ⟨q, hq, e⟩ := place_kid hy
   have hk := kids_ok hok
   have hoy : ok y = true := e ▸ okL_mem hk hq
   have ih := pack_within ns y x hoy h
   have ha : alone (.mk k b l) = true := by simp only [ok, Bool.and_eq_true] at hok; exact hok.1
   rw [show (T.mk k b l).kids = l from rfl] at hq
   rcases alone_cases ha with ⟨rfl, rfl, _, _⟩ | ⟨_, _, _, _, rfl⟩
   ·have h2 := packL_in hq
    rw [e] at h2
    refine ih.trans (h2.trans ?_)
    rw [packB, if_pos rfl]
    exact ⟨encN 4 ++ encN l.length, [], by simp⟩
   ·cases hq
theorem parts {b : List UInt8} {ns : List (List UInt8)} {x : T} (h : opE b = 0) (hf : find (opT b) ns = some x) : opE (packB x) = 0 ∧ opT (packB x) = x ∧ packB x <:+: b := by
 obtain ⟨hl, ho⟩ := opE_zero h
 obtain ⟨h1, h2⟩ := (openT_iff _ _).1 ho
 have hok : ok (opT b) = true := by
  have h1' := h1
  simp only [right, lookB, Bool.and_eq_true] at h1'
  exact h1'.1.1
 have hin := pack_within ns _ _ hok hf
 rw [h2] at hin
 have hlen := hin.length_le
 obtain ⟨g1, g2⟩ := opE_of (b := packB x) (by omega) (open_pack (find_right h1 hf))
 exact ⟨g1, g2, hin⟩
end Go.Tr
