/- A load by its run; a block behind changes elsewhere. (Several texts in one.) -/
import Derived.Test.YtfiadgdinhmgbaaDoorWAE
import Derived.Test.YtfiadgdinhmgbaaDoorWAF
import Derived.Test.YtfiadgdinhmgbaaDoorWAG
import Derived.Test.YtfiadgdinhmgbaaDoorWAI
import Derived.Test.YtfiadgdinhmgbaaDoorWAJ
import Derived.Deep.MidRow
import Derived.Laws.CopyOwn
import Derived.Deep.RegionHeld3
import Derived.Stop.BytesEq
import Derived.Lib.Bytealg
import Derived.Lib.BytesEntry
import Derived.Test.YtfiadgdinhmgbaaDoorWAA
/-! A file tree in memory: nodes as values, kids as elements, what lies at a kid; a tree stays where only new blocks come. -/
namespace Go.Proofs.YtfiadgdinhmgbaaDoor
open Go.RowKit Pl Go.Agg Go.Tr
/-- a node's cells: a kind, bytes, kids -/
abbrev NdV : Type := Int × SV × SV
abbrev KdV : Type := List UInt8 × NdV
def svN : SV := ⟨.slice none 0 0, none, 0, 0, rfl⟩
def ndC (x : NdV) : Array Value := #[.int .i64 x.1, x.2.1.1, x.2.2.1]
def kdC (y : KdV) : Array Value := #[.string ⟨y.1.toArray⟩, .int .i64 y.2.1, y.2.2.1.1, y.2.2.2.1]
def ndZ : NdV := (0, svN, svN)
def kdZ : KdV := ([], ndZ)
theorem sv_oneT (s : SV) : s.1.oneCell' = true := by obtain ⟨_, p, n, c, rfl⟩ := s; rfl
theorem ndC_size (x : NdV) : (ndC x).size = 3 := rfl
theorem kdC_size (y : KdV) : (kdC y).size = 4 := rfl
theorem ndC_one (x : NdV) : (ndC x).all (·.oneCell') = true := by
  simp [ndC, sv_oneT]; rfl
theorem kdC_one (y : KdV) : (kdC y).all (·.oneCell') = true := by
  simp [kdC, sv_oneT]; exact ⟨rfl, rfl⟩
theorem nd_zero : (Tryd.prog.info? 26).map (·.zero) = some (some (.agg (ndC ndZ))) := by kernel_rfl
theorem nd_info (x : NdV) : (Tryd.prog.info? 26).map (·.size) = some (ndC x).size := by rw [ndC_size]; kernel_rfl
theorem nd_under : Tryd.prog.underlying 26 = some (.struct (Tryd.prog.fieldsOf 26)) := by kernel_rfl
theorem kd_zero : (Tryd.prog.info? 51).map (·.zero) = some (some (.agg (kdC kdZ))) := by kernel_rfl
theorem kd_info (y : KdV) : (Tryd.prog.info? 51).map (·.size) = some (kdC y).size := by rw [kdC_size]; kernel_rfl
theorem kd_under : Tryd.prog.underlying 51 = some (.struct (Tryd.prog.fieldsOf 51)) := by kernel_rfl
theorem kds_under : Tryd.prog.underlying 24 = some (.slice 51) := by kernel_rfl
theorem bs_under : Tryd.prog.underlying 23 = some (.slice 5) := by kernel_rfl
/-- kids as elements -/
def EK : Elem Tryd.prog KdV where
  ty := 51
  st := 24
  n := 4
  bytes := 72
  val := fun x => .agg (kdC x)
  zero := .agg (kdC kdZ)
  pos := by omega
  small := by omega
  size := fun x => by simp [Value.cells, kdC_size]
  one := fun x v hv => one_of (kdC_one x) v hv
  zsize := by simp [Value.cells, kdC_size]
  slice := by kernel_rfl
  info := info_of kd_zero (by kernel_rfl) (by kernel_rfl)
  load := fun w a x hp h => LoadsL.of_cells hp h kd_under rfl (kd_info x)
theorem kds_len {w : World} {v : Value} {l : List KdV} (h : SliceOf EK w v l) (W : World) : (Builtin.len_ #[24] 3 #[v]).run Tryd.prog W = .ok (.int .i64 (l.length : Int)) W := h.len W
mutual
/-- a node's value reads as a tree -/
def NodeV (w : World) : NdV → T → Prop
  | x, .mk k b l => x.1 = k ∧ BytesAt w x.2.1.1 b ∧ ∃ ks : List KdV, SliceOf EK w x.2.2.1 ks ∧ KidsV w ks l
def KidsV (w : World) : List KdV → List (List UInt8 × T) → Prop
  | [], [] => True
  | y :: ks, (n, t) :: l => y.1 = n ∧ NodeV w y.2 t ∧ KidsV w ks l
  | _, _ => False
end
mutual
theorem NodeV.below {w w' : World} (hb : Below w.heap.size w w') : ∀ (t : T) (x : NdV), NodeV w x t → NodeV w' x t
  | .mk k b l, x, h => by
    obtain ⟨h1, h2, ks, h3, h4⟩ := h
    exact ⟨h1, SliceOf.below h2 hb, ks, SliceOf.below h3 hb, KidsV.below hb l ks h4⟩
theorem KidsV.below {w w' : World} (hb : Below w.heap.size w w') : ∀ (l : List (List UInt8 × T)) (ks : List KdV), KidsV w ks l → KidsV w' ks l
  | [], [], _ => trivial
  | (_, t) :: l, y :: ks, h => ⟨h.1, NodeV.below hb t y.2 h.2.1, KidsV.below hb l ks h.2.2⟩
  | [], _ :: _, h => h
  | (_, _) :: _, [], h => h
end
theorem KidsV.len {w : World} : ∀ {ks : List KdV} {l : List (List UInt8 × T)}, KidsV w ks l → ks.length = l.length
  | [], [], _ => rfl
  | y :: ks, (n, t) :: l, h => by simp [KidsV.len h.2.2]
  | [], (_, _) :: _, h => h.elim
  | _ :: _, [], h => h.elim
theorem KidsV.at_ {w : World} : ∀ {ks : List KdV} {l : List (List UInt8 × T)} (k : Nat) (x : List UInt8 × T), KidsV w ks l → l[k]? = some x → ∃ y, ks[k]? = some y ∧ y.1 = x.1 ∧ NodeV w y.2 x.2
  | [], [], k, x, _, h => by simp at h
  | y :: ks, (n, t) :: l, 0, x, h, hx => by
    simp only [List.getElem?_cons_zero, Option.some.injEq] at hx
    subst hx
    exact ⟨y, rfl, h.1, h.2.1⟩
  | y :: ks, (n, t) :: l, k + 1, x, h, hx => by
    simp only [List.getElem?_cons_succ] at hx ⊢
    exact KidsV.at_ k x h.2.2 hx
  | [], (_, _) :: _, _, _, h, _ => h.elim
  | _ :: _, [], _, _, h, _ => h.elim
theorem KidsV.append {w : World} : ∀ {ks ms : List KdV} {l m : List (List UInt8 × T)}, KidsV w ks l → KidsV w ms m → KidsV w (ks ++ ms) (l ++ m)
  | [], _, [], _, _, h => h
  | _ :: _, _, (_, _) :: _, _, h, h2 => ⟨h.1, h.2.1, KidsV.append h.2.2 h2⟩
  | [], _, (_, _) :: _, _, h, _ => h.elim
  | _ :: _, _, [], _, h, _ => h.elim
/-- a node in memory -/
def NodeAt (w : World) (v : Value) (t : T) : Prop := ∃ x : NdV, v = .agg (ndC x) ∧ NodeV w x t
theorem NodeAt.below {w w' : World} {v : Value} {t : T} (h : NodeAt w v t) (hb : Below w.heap.size w w') : NodeAt w' v t := by
  obtain ⟨x, e, h⟩ := h
  exact ⟨x, e, h.below hb⟩
/-- what lies at a node's address -/
structure NdL (w : World) (p : Addr) (x : NdV) : Prop where
  all : LoadsL Tryd.prog w 26 (some p) (.agg (ndC x))
  kind : LoadsL Tryd.prog w 22 (some p) (.int .i64 x.1)
  bytes : LoadsL Tryd.prog w 23 (some (p.add 1)) x.2.1.1
  kids : LoadsL Tryd.prog w 24 (some (p.add 2)) x.2.2.1
theorem NdL.below {w w' : World} {p : Addr} {x : NdV} (h : NdL w p x) (hb : Below w.heap.size w w') : NdL w' p x := ⟨h.all.below hb, h.kind.below hb, h.bytes.below hb, h.kids.below hb⟩
theorem NdL.of_cells {w : World} {p : Addr} {x : NdV} (hp : p.block < w.heap.size) (h : ∀ j u, (ndC x)[j]? = some u → w.cell? (p.add j) = some u) : NdL w p x where
  all := LoadsL.of_cells hp h nd_under rfl (nd_info x)
  kind := LoadsL.of_cell (by have := h 0 _ rfl; rwa [show p.add 0 = p from by cases p; rfl] at this) Tryd.underlying22 rfl
  bytes := LoadsL.of_cell (h 1 _ rfl) bs_under rfl
  kids := LoadsL.of_cell (h 2 _ rfl) kds_under rfl
theorem NdL.of_blk {w : World} {g : Nat} {x : NdV} (h : Blk w g 26 (ndC x)) : NdL w ⟨g, 0, none⟩ x :=
  NdL.of_cells h.lt (fun j u hj => by rw [add_plain, Nat.zero_add, h.cell]; exact hj)
/-- what lies at a kid's address -/
structure KdL (w : World) (p : Addr) (y : KdV) : Prop where
  all : LoadsL Tryd.prog w 51 (some p) (.agg (kdC y))
  name : LoadsL Tryd.prog w 9 (some p) (.string ⟨y.1.toArray⟩)
  node : NdL w (p.add 1) y.2
theorem KdL.below {w w' : World} {p : Addr} {y : KdV} (h : KdL w p y) (hb : Below w.heap.size w w') : KdL w' p y := ⟨h.all.below hb, h.name.below hb, h.node.below hb⟩
theorem KdL.of_cells {w : World} {p : Addr} {y : KdV} (hp : p.block < w.heap.size) (h : ∀ j u, (kdC y)[j]? = some u → w.cell? (p.add j) = some u) : KdL w p y where
  all := LoadsL.of_cells hp h kd_under rfl (kd_info y)
  name := LoadsL.of_cell (by have := h 0 _ rfl; rwa [show p.add 0 = p from by cases p; rfl] at this) Tryd.underlying9 rfl
  node := NdL.of_cells (by rw [add_block]; exact hp) (fun j u hj => by
    rw [add_add]
    refine h _ _ ?_
    match j, hj with
    | 0, hj => exact hj
    | 1, hj => exact hj
    | 2, hj => exact hj
    | j + 3, hj => simp [ndC] at hj)
theorem kid_at {w : World} {v : Value} {l : List KdV} (h : SliceOf EK w v l) (k : Nat) (y : KdV) (hy : l[k]? = some y) :
    ∃ p : Addr, (∀ W, (Instr.indexAt 24 v (.int .i64 (k : Int))).run Tryd.prog W = .ok (.pointer (some p)) W) ∧ KdL w p y := by
  obtain ⟨p, h1, h2, h3, h4⟩ := h.at_ k y hy
  exact ⟨p, h1, KdL.of_cells h2 h3⟩
end Go.Proofs.YtfiadgdinhmgbaaDoor
/-! Maps that a call makes: a look-up that does not ask whether it is there; what a new key leaves. -/
namespace Go.Mp
open Go.RowKit Go.Instr
section
variable {P : Program} {α β : Type} [DecidableEq α]
/-- what a look-up yields -/
def mval {β : Type} (ν : β → Value) (z : Value) : Option β → Value | some v => ν v | none => z
/-- 'v := m[k]' -/
theorem run_lookup0 {t K E : TypeId} {w : World} {b : Nat} {κ : α → Value} {ν : β → Value} {m : List (α × β)} {z : Value} (ht : P.underlying t = some (.map K E)) (hK : KeyEq P K κ) (hz : ∀ w, (zeroValue E).run P w = .ok z w)
    (h : MapIs w b κ ν m) (a : α) :
    (lookup t (.map (some b)) (κ a) false).run P w = .ok (mval ν z (mget m a)) w := by
  obtain ⟨es, c, hb, he⟩ := h
  unfold lookup
  rw [Sem.run_bind, run_underlying ht w]
  simp only [Result.andThen, Sem.run_bind, getObj, Sem.run, hb, Sem.run_pure, hK.check, findKey_eq hK a m es.toList w he]
  have hg := place_get m a 0
  cases hp : place m a 0 with
  | none =>
    rw [hp] at hg
    simp [← hg, hz, mval]
  | some x =>
    rw [hp] at hg
    simp [← hg, mval]
theorem mput_new' (m : List (α × β)) (x : α) (v : β) (h : mget m x = none) : mput m x v = m ++ [(x, v)] := by
  induction m with
  | nil => rfl
  | cons p r ih =>
    by_cases e : x = p.1
    · simp [mget, e] at h
    · have h' : mget r x = none := by simpa [mget, e] using h
      simp [mput, e, ih h']
theorem mget_none (m : List (α × β)) (x : α) (h : ¬ x ∈ m.map (·.1)) : mget m x = none := by
  unfold mget
  rw [List.find?_eq_none.2]
  · rfl
  · intro y hy
    simp only [decide_eq_true_eq]
    rintro rfl
    exact h (List.mem_map.2 ⟨y, hy, rfl⟩)
theorem mget_some (m : List (α × β)) (x : α) (v : β) (h : x ∈ m.map (·.1)) (hv : ∀ p ∈ m, p.2 = v) : mget m x = some v := by
  unfold mget
  cases hf : m.find? (fun p => decide (x = p.1)) with
  | some y => simp only [Option.map_some]; rw [hv y (List.mem_of_find?_eq_some hf)]
  | none =>
    rw [List.find?_eq_none] at hf
    obtain ⟨y, hy, rfl⟩ := List.mem_map.1 h
    exact absurd (hf y hy) (by simp)
variable {ops : Array Oper} {rest : List Oper} {o : Oper} {a : Act} {w : World} {Q : Exit → Act → World → Prop}
theorem wpList_lookup0 (hg : o.guard = none) (mo xo : Operand) (t K E : TypeId) (hop : o.op = Op.lookup t mo xo false) (ht : P.underlying t = some (.map K E)) {κ : α → Value} {ν : β → Value} {z : Value}
    (hK : KeyEq P K κ) (hz : ∀ w, (zeroValue E).run P w = .ok z w) {b : Nat} {m : List (α × β)} (hm : a.eval mo = .map (some b)) (h : MapIs w b κ ν m) (x : α) (hx : a.eval xo = κ x) (r : Value) (hr : mval ν z (mget m x) = r)
    (hk : wpList P ops Q rest (a.put o.dst r) w) : wpList P ops Q (o :: rest) a w := by
  refine wpList_plain hg fun K' hK' => ?_
  unfold Oper.wp
  simp [execOp, hop, hm, hx, run_lookup0 ht hK hz h x, Result.andThen, hr]
  exact hK' _ _ hk
omit [DecidableEq α] in
/-- 'make(map[K]V)', 'map[K]V{}' -/
theorem wpList_makeMap (κ : α → Value) (ν : β → Value) (hg : o.guard = none) (t : TypeId) (hop : o.op = Op.makeMap t none)
    (h : ∀ g w', MapIs w' g κ ν [] → Below w.heap.size w w' → w.heap.size ≤ g → wpList P ops Q rest (a.put o.dst (.map (some g))) w') : wpList P ops Q (o :: rest) a w := by
  refine wpList_plain hg fun K' hK' => ?_
  unfold Oper.wp
  simp [execOp, hop, run_makeMap, Result.andThen]
  exact hK' _ _ (h _ _ (MapIs.empty w κ ν) ((Below.refl _ _).alloc (Nat.le_refl _) _) (Nat.le_refl _))
end
end Go.Mp
/-! tree.kinds: what kinds of nodes there are, and what is looked up there. -/
namespace Go.Mp
open Go.RowKit Go.Instr
section
variable {P : Program} {α β : Type} [DecidableEq α]
variable {ops : Array Oper} {rest : List Oper} {o : Oper} {a : Act} {w : World} {Q : Exit → Act → World → Prop}
/-- an entry of a map literal -/
theorem wpList_insert (hg : o.guard = none) (hd : o.dst = none) (mo xo vo : Operand) (t K E : TypeId) (hop : o.op = Op.insert t mo xo vo) (ht : P.underlying t = some (.map K E)) {κ : α → Value} {ν : β → Value}
    (hK : KeyEq P K κ) {b : Nat} {m : List (α × β)} (hm : a.eval mo = .map (some b)) (h : MapIs w b κ ν m) (x : α) (hx : a.eval xo = κ x) (v : β) (hv : a.eval vo = ν v)
    (hk : ∀ w', MapIs w' b κ ν (mput m x v) → ButMap b w w' → wpList P ops Q rest a w') : wpList P ops Q (o :: rest) a w := by
  refine wpList_plain hg fun K' hK' => ?_
  obtain ⟨w', hr, h1, h2⟩ := run_mapUpdate ht hK h x v
  unfold Oper.wp
  simp [execOp, hop, hm, hx, hv, hr, Result.andThen]
  rw [Oper.upon_skip, hd]
  exact hK' _ _ (hk w' h1 h2)
end
end Go.Mp
namespace Go.Proofs.YtfiadgdinhmgbaaDoor
open Go.RowKit Pl Go.Agg Go.Tr Go.Mp
abbrev Bd := Int × Int × Bool
def bdC (x : Bd) : Array Value := #[.int .i64 x.1, .int .i64 x.2.1, .bool x.2.2]
def bdV (x : Bd) : Value := .agg (bdC x)
def kK (n : Int) : Value := .int .i64 n
theorem bd_zero : (Tryd.prog.info? 124).map (·.zero) = some (some (.agg (bdC (0, 0, false)))) := by kernel_rfl
theorem bd_info (x : Bd) : (Tryd.prog.info? 124).map (·.size) = some (bdC x).size := by kernel_rfl
theorem bd_under : Tryd.prog.underlying 124 = some (.struct (Tryd.prog.fieldsOf 124)) := by kernel_rfl
theorem bd_one (x : Bd) : (bdC x).all (·.oneCell') = true := by simp [bdC, Value.oneCell']
theorem kinds_under : Tryd.prog.underlying 74 = some (.map 22 124) := by kernel_rfl
theorem kind_key : KeyEq Tryd.prog 22 kK := int_key Tryd.underlying22
/-- what a kind's nodes have -/
def kindOf (k : Int) : Option Bd := if k = 4 then some (0, 0, true) else if k = 3 then some (1, 200, false) else if k = 2 then some (0, 2048, false) else if k = 1 then some (0, 2048, false) else none
def kindsM : List (Int × Bd) := mput (mput (mput (mput [] 1 (0, 2048, false)) 2 (0, 2048, false)) 3 (1, 200, false)) 4 (0, 0, true)
theorem kinds_get (k : Int) : mget kindsM k = kindOf k := by
  unfold kindsM kindOf
  simp only [mget_mput]
  rfl
theorem bd_build (a b : Int) (c : Bool) (W : World) : (Instr.build 124 #[(0, .int .i64 a), (1, .int .i64 b), (2, .bool c)]).run Tryd.prog W = .ok (bdV (a, b, c)) W := by kernel_rfl
set_option maxRecDepth 100000 in
set_option maxHeartbeats 4000000 in
theorem kinds_any (w : World) : Calls Tryd.prog 76 #[] w fun e w' => ∃ g, e = .returned (.map (some g)) ∧ w.heap.size ≤ g ∧ MapIs w' g kK bdV kindsM ∧ Below w.heap.size w w' := by
  go_enter Tryd.func76, Tryd.ntmps76
  go_wp2_with (first | (refine Agg.wpList_new rfl rfl rfl 124 1 2 rfl rfl rfl (by decide) (bdC (0, 0, false)) (bdC (0, 2048, false)) bd_zero rfl (bd_info _) (bd_one _) rfl (by first | (simp; done) | simp [Act.put]) ?_; intro g1 w1 hb hx hg; have HX1 := Lib.hid hx; have HL1 := Lib.hid (hb.loads bd_under rfl (bd_info _)); clear hb hx hg) | (refine wpList_makeMap kK bdV rfl 74 rfl ?_; intro gm w2 hm hx hg; have HM2 := Lib.hid hm; have HL2 := Lib.hid (HL1.out.below hx); have HX2 := Lib.hid hx; have HG := Lib.hid hg; clear hm hx hg) | (refine wpList_insert rfl rfl _ _ _ 74 22 124 rfl kinds_under kind_key rfl HM2.out 1 rfl (0, 2048, false) rfl ?_; intro w3 hm hb; have HM3 := Lib.hid hm; have HX3 := Lib.hid (hb.below HX2.out HG.out); have HL3 := Lib.hid (HL1.out.below HX3.out); clear hm hb HM2) | (refine wpList_insert rfl rfl _ _ _ 74 22 124 rfl kinds_under kind_key rfl HM3.out 2 rfl (0, 2048, false) rfl ?_; intro w4 hm hb; have HM4 := Lib.hid hm; have HX4 := Lib.hid (hb.below HX3.out HG.out); have HL4 := Lib.hid (HL1.out.below HX4.out); clear hm hb HM3) | (refine wpList_insert rfl rfl _ _ _ 74 22 124 rfl kinds_under kind_key rfl HM4.out 3 rfl (1, 200, false) rfl ?_; intro w5 hm hb; have HM5 := Lib.hid hm; have HX5 := Lib.hid (hb.below HX4.out HG.out); have HL5 := Lib.hid (HL1.out.below HX5.out); clear hm hb HM4) | (refine wpList_insert rfl rfl _ _ _ 74 22 124 rfl kinds_under kind_key rfl HM5.out 4 rfl (0, 0, true) rfl ?_; intro w6 hm hb; have HM6 := Lib.hid hm; have HX6 := Lib.hid (hb.below HX5.out HG.out); have HL6 := Lib.hid (HL1.out.below HX6.out); clear hm hb HM5) | (with_reducible refine Agg.wpList_loadL HL2.out rfl _ rfl rfl ?_) | (with_reducible refine Agg.wpList_loadL HL3.out rfl _ rfl rfl ?_) | (with_reducible refine Agg.wpList_loadL HL4.out rfl _ rfl rfl ?_) | (with_reducible refine Agg.wpList_loadL HL5.out rfl _ rfl rfl ?_))
  go_ret
  exact ⟨gm, rfl, Nat.le_trans HX1.out.size HG.out, HM6.out, Agg.belowThen HX1.out (Nat.le_refl _) HX6.out⟩
end Go.Proofs.YtfiadgdinhmgbaaDoor
/-! tree.named: whether kids' names are right. -/
namespace Go.Tr
/-- the name behind which kids stand -/
def lastN (b : Option (List UInt8)) : List K → Option (List UInt8)
  | [] => b
  | (n, _) :: l => lastN (some n) l
def nameOk (b : Option (List UInt8)) (n : List UInt8) : Bool := Pl.isName n && (match b with | none => true | some c => Op.bytesLess c n)
theorem named_snoc : ∀ (l : List K) (b : Option (List UInt8)) (x : K), named b (l ++ [x]) = (named b l && nameOk (lastN b l) x.1)
  | [], b, x => by obtain ⟨n, t⟩ := x; cases b <;> simp [named, lastN, nameOk]
  | (n, t) :: l, b, x => by simp only [List.cons_append, named, lastN, named_snoc l (some n) x, Bool.and_assoc]
theorem named_more : ∀ (l m : List K) (b : Option (List UInt8)), named b l = false → named b (l ++ m) = false
  | [], m, b, h => by simp [named] at h
  | (n, t) :: l, m, b, h => by
    simp only [List.cons_append, named] at h ⊢
    cases h1 : named (some n) l with
    | false => rw [named_more l m (some n) h1, Bool.and_false]
    | true => rw [h1, Bool.and_true] at h; rw [h, Bool.false_and]
theorem named_take {l : List K} {k : Nat} (h : named none (l.take k) = false) : named none l = false := by
  have := named_more (l.take k) (l.drop k) none h
  rwa [List.take_append_drop] at this
theorem lastN_snoc : ∀ (l : List K) (b : Option (List UInt8)) (x : K), lastN b (l ++ [x]) = some x.1
  | [], b, x => rfl
  | (n, t) :: l, b, x => by simp only [List.cons_append, lastN, lastN_snoc l (some n) x]
theorem lastN_take {l : List K} {k : Nat} {y : K} (hk : 0 < k) (h : l[k - 1]? = some y) : lastN none (l.take k) = some y.1 := by
  obtain ⟨j, rfl⟩ : ∃ j, k = j + 1 := ⟨k - 1, by omega⟩
  rw [take_succ' (by simpa using h), lastN_snoc]
end Go.Tr
namespace Go.Proofs.YtfiadgdinhmgbaaDoor
open Go.RowKit Pl Go.Agg Go.Tr
theorem nameD (s : List UInt8) {b : Bool} (hb : isName s = b) (w : World) :
    Calls Tryd.prog 62 #[.string ⟨s.toArray⟩] w fun e w' => e = .returned (.bool b) ∧ Below w.heap.size w w' := by
  subst hb
  exact name_any s w
theorem i64_predK (n : Nat) (h0 : 0 < n) (h : n ≤ 1048576) : IntKind.i64.wrap ((n : Int) - 1) = ((n - 1 : Nat) : Int) := by
  rw [IntKind.wrap_i64]; omega
theorem KdL.of_blk {w : World} {g : Nat} {y : KdV} (h : Blk w g 51 (kdC y)) : KdL w ⟨g, 0, none⟩ y :=
  KdL.of_cells h.lt (fun j u hj => by rw [add_plain, Nat.zero_add, h.cell]; exact hj)
/-- names read as those of kids -/
def NmsAre : List KdV → List K → Prop
  | [], [] => True
  | y :: ks, (n, _) :: l => y.1 = n ∧ NmsAre ks l
  | _, _ => False
theorem KidsV.nms {w : World} : ∀ {ks : List KdV} {l : List K}, KidsV w ks l → NmsAre ks l
  | [], [], _ => trivial
  | _ :: _, (_, _) :: _, h => ⟨h.1, h.2.2.nms⟩
  | [], _ :: _, h => h.elim
  | _ :: _, [], h => h.elim
theorem NmsAre.len : ∀ {ks : List KdV} {l : List K}, NmsAre ks l → ks.length = l.length
  | [], [], _ => rfl
  | _ :: _, (_, _) :: _, h => by simp [NmsAre.len h.2]
  | [], _ :: _, h => h.elim
  | _ :: _, [], h => h.elim
theorem NmsAre.at_ : ∀ {ks : List KdV} {l : List K} (k : Nat) (x : K), NmsAre ks l → l[k]? = some x → ∃ y, ks[k]? = some y ∧ y.1 = x.1
  | [], [], _, _, _, h => by simp at h
  | y :: _, (n, t) :: _, 0, x, h, hx => by
    simp only [List.getElem?_cons_zero, Option.some.injEq] at hx
    subst hx
    exact ⟨y, rfl, h.1⟩
  | _ :: _, (_, _) :: _, k + 1, x, h, hx => by
    simp only [List.getElem?_cons_succ] at hx ⊢
    exact NmsAre.at_ k x h.2 hx
  | [], _ :: _, _, _, h, _ => h.elim
  | _ :: _, [], _, _, h, _ => h.elim
set_option maxRecDepth 100000 in
set_option maxHeartbeats 8000000 in
theorem named_any (v : Value) (ks : List KdV) (l : List K) (hl : l.length ≤ 1048576) (w : World) (hs : SliceOf EK w v ks) (hn : NmsAre ks l) :
    Calls Tryd.prog 94 #[v] w fun e w' => e = .returned (.bool (named none l)) ∧ Below w.heap.size w w' := by
  have hlen := hn.len
  have hlk := kds_len hs
  rw [hlen] at hlk
  have HS := Lib.hid hs
  have HN := Lib.hid hn
  clear hs hn
  go_enter Tryd.func94, Tryd.ntmps94
  go_wp2_with fail
  go_loopw [7] (fun i wr => ∃ k : Nat, k ≤ l.length ∧ i = .int .i64 (k : Int) ∧ named none (l.take k) = true ∧ Below w.heap.size w wr) (fun i _ => l.length - (intOf i).toNat)
  case atStart => exact ⟨0, by omega, rfl, rfl, Below.refl _ _⟩
  case round =>
    obtain ⟨w2, rfl⟩ : ∃ w2 : World, w2 = wr := ⟨_, rfl⟩
    obtain ⟨k, hk, rfl, hnm, hx⟩ := hrel
    have HNM := Lib.hid hnm
    have HX := Lib.hid hx
    have HSX := Lib.hid (HS.out.below hx)
    clear hnm hx
    by_cases hlt : k < l.length
    · have hd : decide ((k : Int) < (l.length : Int)) = true := by simp <;> omega
      obtain ⟨x, hxk⟩ : ∃ x, l[k]? = some x := ⟨_, List.getElem?_eq_getElem hlt⟩
      obtain ⟨y, hyk, hyx⟩ := HN.out.at_ k x hxk
      obtain ⟨p, hadr, hle⟩ := kid_at HSX.out k y hyk
      have HE := Lib.hid hle.all
      have HSN := Lib.hid (show named none (l.take (k + 1)) = (named none (l.take k) && nameOk (lastN none (l.take k)) x.1) by rw [take_succ' hxk, named_snoc])
      have HYX := Lib.hid hyx
      clear hle hyx hxk hyk
      go_wp2_with (first | (with_reducible refine Agg.wpList_loadL HE.out rfl _ rfl rfl ?_) | (refine Agg.wpList_zero rfl 51 rfl (kdC kdZ) kd_zero ?_; intro g3 wz hb hx hg; have HKZ := Lib.hid hb; have HXZ := Lib.hid hx; have HGZ := Lib.hid hg; have HE := Lib.hid (HE.out.below hx); clear hb hx hg) | (refine Agg.wpList_put rfl rfl 51 _ _ rfl g3 (kdC y) (kdC kdZ) rfl rfl HKZ.out (kd_info y) rfl (kdC_one y) ?_; intro w3 hb hx hs hk; have HK3 := Lib.hid (KdL.of_blk hb); have HX3 := Lib.hid (Agg.belowThen HX.out (Nat.le_refl _) (HXZ.out.trans (hx.mono HGZ.out))); have HS3 := Lib.hid (HSX.out.below (HXZ.out.trans (hx.mono HGZ.out))); clear hb hx hs hk))
      have HBAD : Hid (nameOk (lastN none (l.take k)) x.1 = false → named none l = false) := Lib.hid (fun h => named_take (k := k + 1) (by rw [HSN.out, h, Bool.and_false]))
      have HNX : Hid (nameOk (lastN none (l.take k)) x.1 = true → named none (l.take (k + 1)) = true) := Lib.hid (fun h => by rw [HSN.out, h, HNM.out]; rfl)
      clear hadr
      cases hnx : isName x.1 with
      | false =>
        have HR := Lib.hid (HBAD.out (by simp [nameOk, hnx]))
        have HC := Lib.hid (fun W => nameD y.1 (b := false) (by rw [HYX.out]; exact hnx) W)
        clear hnx
        try simp only [Act.put, List.setIfInBounds_toArray, List.set_cons_succ, List.set_cons_zero]
        refine Agg.wp_region_later_lit (by kernel_rfl) (by kernel_rfl) ?_
        repeat (first | go_big_quiet_skip | ((first | (with_reducible refine Agg.wpQuiet_loadL HK3.out.name rfl _ rfl rfl ?_)); simp only [Act.put, List.setIfInBounds_toArray, List.set_cons_succ, List.set_cons_zero]) | go_big_quiet_step (first | (go_at_call 62; first | (with_reducible exact Agg.Calls.later (HC.out _)))))
        refine wpQuiet_nil ?_
        intro _ hw'
        obtain ⟨x1, rfl⟩ := hw'
        go_wp2_with fail
        go_ret
        exact ⟨ret_bool HR.out.symm, Agg.belowThen HX3.out (Nat.le_refl _) x1.h⟩
      | true =>
        have HC := Lib.hid (fun W => nameD y.1 (b := true) (by rw [HYX.out]; exact hnx) W)
        by_cases hk0 : k = 0
        · have hkd : decide (0 < (k : Int)) = false := by simp <;> omega
          have HG := Lib.hid (HNX.out (by subst hk0; simp [nameOk, hnx, lastN]))
          clear hnx
          try simp only [Act.put, List.setIfInBounds_toArray, List.set_cons_succ, List.set_cons_zero]
          refine Agg.wp_region_later_lit (by kernel_rfl) (by kernel_rfl) ?_
          repeat (first | go_big_quiet_skip | ((first | (with_reducible refine Agg.wpQuiet_loadL HK3.out.name rfl _ rfl rfl ?_)); simp only [Act.put, List.setIfInBounds_toArray, List.set_cons_succ, List.set_cons_zero]) | go_big_quiet_step (first | (go_at_call 62; first | (with_reducible exact Agg.Calls.later (HC.out _)))))
          refine wpQuiet_nil ?_
          intro _ hw'
          obtain ⟨x1, rfl⟩ := hw'
          have hx6 := Agg.belowThen HX3.out (Nat.le_refl _) x1.h
          go_wp2_with fail
          go_roundw
          case rel => exact ⟨k + 1, by omega, by go_num, HG.out, hx6⟩
          case measure => simp [intOf]; omega
        · have hkd : 0 < k := by omega
          have hkd2 : decide (0 < k) = true := by simpa using hkd
          obtain ⟨z, hzk⟩ : ∃ z, l[k - 1]? = some z := ⟨_, List.getElem?_eq_getElem (by omega)⟩
          obtain ⟨u, huk, huz⟩ := HN.out.at_ (k - 1) z hzk
          obtain ⟨q, hadq, hlq⟩ := kid_at HS3.out (k - 1) u huk
          have hlz := lastN_take hkd hzk
          have HQ := Lib.hid hlq.name
          have hwr := i64_predK k (by omega) (by omega)
          cases hbl : Op.bytesLess z.1 x.1 with
          | false =>
            have HR := Lib.hid (HBAD.out (by rw [hlz]; simp [nameOk, hbl]))
            have HGE := Lib.hid (show (!Op.bytesLess u.1 y.1) = true by rw [huz, HYX.out, hbl]; rfl)
            clear hnx hbl hlq huk huz hlz
            try simp only [Act.put, List.setIfInBounds_toArray, List.set_cons_succ, List.set_cons_zero]
            refine Agg.wp_region_later_lit (by kernel_rfl) (by kernel_rfl) ?_
            repeat (first | go_big_quiet_skip | ((first | (with_reducible refine Agg.wpQuiet_loadL HK3.out.name rfl _ rfl rfl ?_) | (with_reducible refine Agg.wpQuiet_loadL HQ.out rfl _ rfl rfl ?_) | (with_reducible refine wpQuiet_geqS rfl rfl rfl rfl true HGE.out ?_)); simp only [Act.put, List.setIfInBounds_toArray, List.set_cons_succ, List.set_cons_zero]) | go_big_quiet_step (first | (go_at_call 62; first | (with_reducible exact Agg.Calls.later (HC.out _)))))
            refine wpQuiet_nil ?_
            intro _ hw'
            obtain ⟨x1, rfl⟩ := hw'
            go_wp2_with fail
            go_ret
            exact ⟨ret_bool HR.out.symm, Agg.belowThen HX3.out (Nat.le_refl _) x1.h⟩
          | true =>
            have HG := Lib.hid (HNX.out (by rw [hlz]; simp [nameOk, hnx, hbl]))
            have HGE := Lib.hid (show (!Op.bytesLess u.1 y.1) = false by rw [huz, HYX.out, hbl]; rfl)
            clear hnx hbl hlq huk huz hlz
            try simp only [Act.put, List.setIfInBounds_toArray, List.set_cons_succ, List.set_cons_zero]
            refine Agg.wp_region_later_lit (by kernel_rfl) (by kernel_rfl) ?_
            repeat (first | go_big_quiet_skip | ((first | (with_reducible refine Agg.wpQuiet_loadL HK3.out.name rfl _ rfl rfl ?_) | (with_reducible refine Agg.wpQuiet_loadL HQ.out rfl _ rfl rfl ?_) | (with_reducible refine wpQuiet_geqS rfl rfl rfl rfl false HGE.out ?_)); simp only [Act.put, List.setIfInBounds_toArray, List.set_cons_succ, List.set_cons_zero]) | go_big_quiet_step (first | (go_at_call 62; first | (with_reducible exact Agg.Calls.later (HC.out _)))))
            refine wpQuiet_nil ?_
            intro _ hw'
            obtain ⟨x1, rfl⟩ := hw'
            have hx6 := Agg.belowThen HX3.out (Nat.le_refl _) x1.h
            go_wp2_with fail
            go_roundw
            case rel => exact ⟨k + 1, by omega, by go_num, HG.out, hx6⟩
            case measure => simp [intOf]; omega
    · obtain rfl : k = l.length := by omega
      have hd1 : decide (((l.length : Nat) : Int) < ((l.length : Nat) : Int)) = false := by simp
      have HR := Lib.hid (show named none l = true by have := HNM.out; rwa [List.take_length] at this)
      go_wp2_with fail
      go_ret
      exact ⟨ret_bool HR.out.symm, HX.out⟩
end Go.Proofs.YtfiadgdinhmgbaaDoor
/-! A row of cells stored into the middle of a block. -/
namespace Go.Agg
open Go.RowKit
variable {P : Program}
def setAll (cs : Array Value) : Nat → List Value → Array Value
  | _, [] => cs
  | i, v :: vs => setAll (cs.setIfInBounds i v) (i + 1) vs
theorem Blk.setAll {g : Nat} {t : TypeId} : ∀ (vs : List Value) (i : Nat) (w : World) (cs : Array Value), Blk w g t cs → Blk (w.setCells g i vs) g t (Agg.setAll cs i vs)
  | [], _, _, _, h => h
  | v :: vs, i, _, _, h => Blk.setAll vs (i + 1) _ _ (h.set i v)
theorem setAll_mid : ∀ (vs a b c : List Value), b.length = vs.length → setAll (a ++ (b ++ c)).toArray a.length vs = (a ++ (vs ++ c)).toArray
  | [], a, b, c, h => by
    obtain rfl := List.length_eq_zero_iff.1 h
    rfl
  | v :: vs, a, [], c, h => by simp at h
  | v :: vs, a, y :: b, c, h => by
    have e : (a ++ (y :: b ++ c)).toArray.setIfInBounds a.length v = ((a ++ [v]) ++ (b ++ c)).toArray := by simp
    have h1 := setAll_mid vs (a ++ [v]) b c (by simpa using h)
    rw [setAll, e, show a.length + 1 = (a ++ [v]).length by simp, h1]
    simp
/-- a row stored: what lies there then -/
theorem Blk.run_row {w : World} {g : Nat} {t ty : TypeId} (a b c ds : Array Value) (h : Blk w g t (a ++ (b ++ c))) (hb : b.size = ds.size) (hs : (P.info? ty).map (·.size) = some ds.size) (h1 : ds.all (·.oneCell') = true) {i : Nat} (hi : i = a.size) :
    ∃ w', (Instr.storeAt ty (.pointer (some ⟨g, i, none⟩)) (.agg ds)).run P w = .ok () w' ∧ Blk w' g t (a ++ (ds ++ c)) ∧ Only (· = g) w w' := by
  subst hi
  refine ⟨_, run_storeAt_mid w g a.size ty ds (fun j hj => ⟨?_, frozen_of_row _ _ _ _ _ h⟩) hs h1, ?_, only_setCells _ _ _ _⟩
  · rw [h.cell]
    simp
    omega
  · have h2 := h.setAll ds.toList a.size
    have e := setAll_mid ds.toList a.toList b.toList c.toList (by simpa using hb)
    have e1 : (a.toList ++ (b.toList ++ c.toList)).toArray = a ++ (b ++ c) := by apply Array.ext'; simp
    have e2 : (a.toList ++ (ds.toList ++ c.toList)).toArray = a ++ (ds ++ c) := by apply Array.ext'; simp
    rw [e1, e2, Array.length_toList] at e
    rw [← e]
    exact h2
/-- one cell stored -/
theorem Blk.run_one {w : World} {g : Nat} {t ty : TypeId} {cs : Array Value} (h : Blk w g t cs) (i : Nat) (hi : i < cs.size) (v : Value) (hv : v.cells = #[v]) (h1 : v.oneCell' = true) (hs : (P.info? ty).map (·.size) = some 1) (ds : Array Value) (he : cs.setIfInBounds i v = ds) :
    ∃ w', (Instr.storeAt ty (.pointer (some ⟨g, i, none⟩)) v).run P w = .ok () w' ∧ Blk w' g t ds ∧ Only (· = g) w w' := by
  subst he
  exact ⟨_, h.run_put i hi v hv h1 hs, h.set i v, rfl, rfl, rfl, by simp [World.setCell], fun k _ hk => Below.heap_setCell _ _ _ _ hk⟩
end Go.Agg
/-! Operations of a region that draws: a store, a copy of bytes, literals. -/
namespace Go.Agg
open Go.RowKit
variable {P : Program}
section
variable {ops : Array Oper} {o : Oper} {a : Act} {w : World} {Q : Exit → Act → World → Prop} {K : Act → World → Prop} {F : Prop}
theorem step_store {w' : World} (hg : o.guard = none) (hd : o.dst = none) (ty : TypeId) (x y : Operand) (ho : o.op = .store ty x y) (p v : Value) (hx : a.eval x = p) (hy : a.eval y = v)
    (hrun : (Instr.storeAt ty p v).run P w = .ok () w') (h : K a w') : if Region.wanted o (yielded ops a.tmps) = true then o.wp P a w K Q else F := by
  rw [if_pos (by simp [Region.wanted, hg])]
  unfold Oper.wp
  have : (execOp a.eval o).run P w = .ok .skip w' := by simp [execOp, ho, hx, hy, hrun]
  rw [this, Oper.upon_skip, hd]
  exact h
theorem step_val {v : Value} {w' : World} (hg : o.guard = none) (hrun : (execOp a.eval o).run P w = .ok (.value v) w') (h : K (a.put o.dst v) w') : if Region.wanted o (yielded ops a.tmps) = true then o.wp P a w K Q else F := by
  rw [if_pos (by simp [Region.wanted, hg])]
  unfold Oper.wp
  rw [hrun]
  exact h
theorem step_slice1 {α : Type} {E : Elem P α} (hg : o.guard = none) (y : Operand) (ho : o.op = .buildSlice E.st 1 #[(0, y)]) (x : α) (hy : a.eval y = E.val x)
    (h : ∀ v' w', Own E w.heap.size w' v' [x] → Below w.heap.size w w' → K (a.put o.dst v') w') : if Region.wanted o (yielded ops a.tmps) = true then o.wp P a w K Q else F := by
  refine step_val hg (v := .slice (some ⟨w.heap.size, 0, none⟩) 1 1) (w' := w.alloc (.cells (E.val x).cells E.ty)) (by simp [execOp, ho, hy, run_slice_one]) (h _ _ ?_ ((Below.refl _ _).alloc (Nat.le_refl _) _))
  have hs := E.size x
  refine ⟨by rw [E.flat_one, E.cs_length]; simp, .inr ⟨_, 1, _, rfl, Nat.le_refl _, heap_alloc_new w _, Nat.le_refl _, by simp [maxLen], by rw [hs]; simp, ?_⟩⟩
  rw [E.flat_one, Elem.cs, List.take_of_length_le (by rw [Array.length_toList, hs]; simp)]
/-- '&T{..}' -/
theorem step_box (hg : o.guard = none) (ty : TypeId) (x : Operand) (ho : o.op = .box ty x) (cs : Array Value) (hx : a.eval x = .agg cs)
    (h : ∀ g w', Blk w' g ty cs → Below w.heap.size w w' → w.heap.size ≤ g → K (a.put o.dst (.pointer (some ⟨g, 0, none⟩))) w') : if Region.wanted o (yielded ops a.tmps) = true then o.wp P a w K Q else F :=
  step_val hg (v := .pointer (some ⟨w.heap.size, 0, none⟩)) (w' := w.alloc (.cells cs ty)) (by simp [execOp, ho, hx, Instr.box, newVar, newRow, Value.cells]) (h _ _ (Blk.new w ty cs) ((Below.refl _ _).alloc (Nat.le_refl _) _) (Nat.le_refl _))
end
end Go.Agg
namespace Go.Proofs.YtfiadgdinhmgbaaDoor
open Go.RowKit Pl Go.Agg
theorem flat_bytes (l : List UInt8) : EB.flat l = Lib.byteCells l := by
  simp only [Elem.flat, Lib.byteCells]
  induction l with
  | nil => rfl
  | cons c t ih =>
    rw [List.flatMap_cons, ih]
    rfl
theorem run_copyB {w : World} {g n : Nat} {t : TypeId} {cur : List Value} {u : Value} {l : List UInt8} (ty : TypeId) (hu : SliceOf EB w u l) (hb : Blk w g t cur.toArray) (hn : cur.length = n) (hl : l.length ≤ n) :
    ∃ w', (Builtin.copy_ #[23, 23] ty #[.slice (some ⟨g, 0, none⟩) n n, u]).run Tryd.prog w = .ok (goInt l.length) w' ∧ Blk w' g t (Lib.byteCells l ++ cur.drop l.length).toArray ∧ Only (· = g) w w' := by
  have hund : Tryd.prog.underlying 23 = some (.slice 5) := by kernel_rfl
  have hsz : (Tryd.prog.info? 5).map (·.size) = some 1 := by kernel_rfl
  have hc : (Lib.byteCells l).length = l.length := by simp [Lib.byteCells]
  by_cases h0 : l.length = 0
  · obtain rfl : l = [] := List.length_eq_zero_iff.1 h0
    obtain ⟨p, c, hf⟩ := hu.form
    subst hf
    exact ⟨w, run_copy_none w _ _ _ 5 _ _ _ _ _ _ hund hsz (by simp), by simpa [Lib.byteCells] using hb, Only.refl _ _⟩
  · rcases hu with ⟨_, _, _, h1⟩ | ⟨q, c, rfl, hq, hcell⟩
    · exact absurd (by simp [h1]) h0
    · rw [flat_bytes] at hcell
      have hrun := run_copy_row (P := Tryd.prog) w 23 23 ty 5 g 0 n n q l.length c cur.toArray t (Lib.byteCells l) hund hsz hb (by rw [hc]; exact (Nat.min_eq_left hl).symm) hcell (by simp [hc]; omega)
        (fun v hv => by
          simp only [Lib.byteCells, List.mem_map] at hv
          obtain ⟨b, _, rfl⟩ := hv
          rfl)
      rw [hc] at hrun
      refine ⟨_, hrun, ?_, rfl, rfl, rfl, by simp [World.setRow], fun k _ hk => setRow_other w g k _ hk⟩
      have h1 := setRow_heap w g cur.toArray (List.take 0 cur.toArray.toList ++ Lib.byteCells l ++ List.drop (0 + l.length) cur.toArray.toList).toArray t _ hb
      refine Eq.trans h1 ?_
      simp
theorem step_copyB {ops : Array Oper} {o : Oper} {a : Act} {w : World} {Q : Exit → Act → World → Prop} {K : Act → World → Prop} {F : Prop} {g n : Nat} {t : TypeId} {cur : List Value} {u : Value} {l : List UInt8} (hg : o.guard = none) (d s : Operand)
    (ho : o.op = .call { callee := .builtin .copy, args := #[d, s], argTypes := #[23, 23] }) (hd : a.eval d = .slice (some ⟨g, 0, none⟩) n n) (hs : a.eval s = u) (hu : SliceOf EB w u l) (hb : Blk w g t cur.toArray) (hn : cur.length = n) (hl : l.length ≤ n)
    (h : ∀ w', Blk w' g t (Lib.byteCells l ++ cur.drop l.length).toArray → Only (· = g) w w' → K (a.put o.dst (goInt l.length)) w') : if Region.wanted o (yielded ops a.tmps) = true then o.wp Tryd.prog a w K Q else F := by
  obtain ⟨w', hrun, h1, h2⟩ := run_copyB o.type hu hb hn hl
  exact step_val hg (by simp [execOp, ho, resolve, invoke, builtin, hd, hs, hrun]) (h w' h1 h2)
end Go.Proofs.YtfiadgdinhmgbaaDoor
/-! A region that draws its order, step by step: each operation that may come up, by its own law. -/
namespace Go.Agg
open Go.RowKit
variable {P : Program}
section
variable {l : List Oper} {md : Region.Mode} {Q : Exit → Act → World → Prop} {S : World → Prop} {fuel : Nat} {listed : Array Bool} {a : Act} {w : World}
def takeB (md : Region.Mode) (l : List Oper) (listed : Array Bool) (i : Nat) : Bool :=
  Region.noSelect l.toArray && Region.free md l.toArray listed i && (Region.ready md l.toArray listed).contains i
theorem any_take {o : Oper} (i : Nat) (v : Value) (ho : l[i]? = some o) (hB : takeB md l listed i = true) (hQ : ∀ c a w, Q (.panic c) (a.put o.dst v) w → Q (.panic c) a w) (hw : Region.wanted o (yielded l.toArray a.tmps) = true)
    (hy : ∀ w, (execOp a.eval o).run P w = .ok (.value v) w) (h : wpAny P md l.toArray Q fuel (listed.setIfInBounds i true) (a.put o.dst v) w) : wpAny P md l.toArray Q (fuel + 1) listed a w := by
  simp only [takeB, Bool.and_eq_true] at hB
  exact wpAny_take (by simpa using ho) hB.1.1 hB.1.2 hB.2 hQ (.inl ⟨hw, hy⟩) h
theorem any_ready (rs : List Nat) (hr : Region.ready md l.toArray listed = rs) (hne : rs ≠ []) (h : AllReady P md l.toArray Q fuel listed a w rs) : wpAny P md l.toArray Q (fuel + 1) listed a w := wpAny_ready hr hne h
theorem any_cons {o : Oper} {i : Nat} {rs : List Nat} (ho : l[i]? = some o)
    (h : if Region.wanted o (yielded l.toArray a.tmps) = true then Oper.wp P o a w (wpAny P md l.toArray Q fuel (listed.setIfInBounds i true)) Q else wpAny P md l.toArray Q fuel (listed.setIfInBounds i true) (a.put o.dst undef) w)
    (hs : AllReady P md l.toArray Q fuel listed a w rs) : AllReady P md l.toArray Q fuel listed a w (i :: rs) :=
  AllReady.cons (by simpa using ho) (fun K' hK => by
    split at h
    · rename_i hw; rw [if_pos hw]; exact Oper.wp_mono hK h
    · rename_i hw; rw [if_neg hw]; exact hK _ _ h) hs
theorem any_end (hr : Region.ready md l.toArray listed = []) (h : Q .normal a w) : wpAny P md l.toArray Q fuel listed a w := by
  cases fuel with
  | zero => exact ⟨hr, h⟩
  | succ n => exact ⟨fun _ => h, by rw [hr]; intro i hi; cases hi⟩
/-! .. while S holds -/
theorem held_take {o : Oper} (i : Nat) (v : Value) (ho : l[i]? = some o) (hB : takeB md l listed i = true) (hQ : ∀ c a w, Q (.panic c) (a.put o.dst v) w → Q (.panic c) a w) (hw : Region.wanted o (yielded l.toArray a.tmps) = true)
    (hy : ∀ w, S w → (execOp a.eval o).run P w = .ok (.value v) w) (hS : S w) (h : wpAnyH P md l.toArray Q S fuel (listed.setIfInBounds i true) (a.put o.dst v) w) : wpAnyH P md l.toArray Q S (fuel + 1) listed a w := by
  simp only [takeB, Bool.and_eq_true] at hB
  exact wpAnyH_take (by simpa using ho) hB.1.1 hB.1.2 hB.2 hQ (.inl ⟨hw, hy⟩) hS h
theorem held_ready (rs : List Nat) (hr : Region.ready md l.toArray listed = rs) (hne : rs ≠ []) (h : AllReadyH P md l.toArray Q S fuel listed a w rs) : wpAnyH P md l.toArray Q S (fuel + 1) listed a w := wpAnyH_ready hr hne h
theorem held_cons {o : Oper} {i : Nat} {rs : List Nat} (ho : l[i]? = some o)
    (h : if Region.wanted o (yielded l.toArray a.tmps) = true then Oper.wp P o a w (fun a' w' => S w' ∧ wpAnyH P md l.toArray Q S fuel (listed.setIfInBounds i true) a' w') Q else S w ∧ wpAnyH P md l.toArray Q S fuel (listed.setIfInBounds i true) (a.put o.dst undef) w)
    (hs : AllReadyH P md l.toArray Q S fuel listed a w rs) : AllReadyH P md l.toArray Q S fuel listed a w (i :: rs) :=
  AllReadyH.cons (by simpa using ho) (fun K' hK => by
    split at h
    · rename_i hw; rw [if_pos hw]; exact Oper.wp_mono (fun a w h => hK.out a w h.1 fun _ => h.2) h
    · rename_i hw; rw [if_neg hw]; exact hK.out _ _ h.1 fun _ => h.2) hs
theorem held_end (hr : Region.ready md l.toArray listed = []) (h : Q .normal a w) : wpAnyH P md l.toArray Q S fuel listed a w := by
  cases fuel with
  | zero => exact ⟨hr, h⟩
  | succ n => exact ⟨fun _ => h, by rw [hr]; intro i hi; cases hi⟩
theorem any_one {o : Oper} (i : Nat) (ho : l[i]? = some o) (hr : Region.ready md l.toArray listed = [i])
    (h : if Region.wanted o (yielded l.toArray a.tmps) = true then Oper.wp P o a w (wpAny P md l.toArray Q fuel (listed.setIfInBounds i true)) Q else wpAny P md l.toArray Q fuel (listed.setIfInBounds i true) (a.put o.dst undef) w) : wpAny P md l.toArray Q (fuel + 1) listed a w :=
  any_ready [i] hr (by simp) (any_cons ho h AllReady.nil)
theorem held_one {o : Oper} (i : Nat) (ho : l[i]? = some o) (hr : Region.ready md l.toArray listed = [i])
    (h : if Region.wanted o (yielded l.toArray a.tmps) = true then Oper.wp P o a w (fun a' w' => S w' ∧ wpAnyH P md l.toArray Q S fuel (listed.setIfInBounds i true) a' w') Q else S w ∧ wpAnyH P md l.toArray Q S fuel (listed.setIfInBounds i true) (a.put o.dst undef) w) : wpAnyH P md l.toArray Q S (fuel + 1) listed a w :=
  held_ready [i] hr (by simp) (held_cons ho h AllReadyH.nil)
end
section
variable {ops : Array Oper} {o : Oper} {a : Act} {w : World} {Q : Exit → Act → World → Prop} {K : Act → World → Prop} {F : Prop}
/-- a call of a Go function, by its contract -/
theorem step_call (hg : o.guard = none) (f : FuncId) (xs : Array Operand) (ts : Array TypeId) (ho : o.op = .call { callee := .value (.func f), args := xs, argTypes := ts }) (vs : Array Value) (hv : xs.map a.eval = vs)
    (he : ∀ w, (callFunc f vs).run P w = .ok (.enter f vs) w) (h : Calls P f vs w fun e w' => ∃ v, e = .returned v ∧ K (a.put o.dst v) w') : if Region.wanted o (yielded ops a.tmps) = true then o.wp P a w K Q else F := by
  rw [if_pos (by simp [Region.wanted, hg])]
  unfold Oper.wp
  have : (execOp a.eval o).run P w = .ok (.enter f vs) w := by
    subst hv
    have hf : a.eval (Operand.func f) = .func (.func f) #[] #[] := rfl
    simp [execOp, ho, resolve, invoke, hf, Deferred.ofValue, he]
  rw [this, Oper.upon_enter]
  refine h.mono ?_
  rintro e w' ⟨v, rfl, hk⟩
  exact hk
/-- a load whose answer is known -/
theorem step_load (hg : o.guard = none) (ty : TypeId) (x : Operand) (ho : o.op = .load ty x) (p v : Value) (hx : a.eval x = p) (hrun : (Instr.loadAt ty p).run P w = .ok v w) (h : K (a.put o.dst v) w) : if Region.wanted o (yielded ops a.tmps) = true then o.wp P a w K Q else F :=
  step_val hg (by simp [execOp, ho, hx, hrun]) h
end
end Go.Agg
/-! (of general use) Parse: a text's path (base and spenceref03). -/
namespace Go.Agg
open Go.RowKit
section
variable {P : Program} {ops : Array Oper} {rest : List Oper} {o : Oper} {a : Act} {w : World} {Q : Exit → Act → World → Prop}
/-- a value of several cells stored into the midst of a block -/
theorem wpList_set_sub (hg : o.guard = none) (hd : o.dst = none) (ty : TypeId) (x y : Operand) (ho : o.op = .store ty x y) (g off : Nat) (cells new : Array Value) (hx : a.eval x = .pointer (some ⟨g, off, none⟩)) (hy : a.eval y = .agg cells)
    (t : TypeId) (old : Array Value) (hb : w.heap[g]? = some (.cells old t (0, 0))) (hi : (P.info? ty).map (·.size) = some cells.size) (hle : off + cells.size ≤ old.size) (h1 : cells.all (·.oneCell') = true)
    (hnew : (old.toList.take off ++ cells.toList ++ old.toList.drop (off + cells.size)).toArray = new)
    (h : wpList P ops Q rest a (w.setRow g new)) : wpList P ops Q (o :: rest) a w := by
  refine wpList_skp hg hd ?_ h
  have hr := run_storeCells_at (P := P) g off t cells.toList 0 old w hb (by simp; omega) (fun v hv => (Array.all_eq_true_iff_forall_mem.1 h1) v (by simpa using hv))
  simp only [Nat.add_zero, Array.length_toList] at hr
  rw [hnew] at hr
  cases hq : P.info? ty with
  | none => simp [hq] at hi
  | some i =>
    have hs : cells.size = i.size := by simp [hq] at hi; omega
    simp [execOp, ho, hx, hy, Instr.storeAt, Instr.sureAddr, storeVar, sizeOf, typeInfo, hq, Value.cells, hs, hr]
end
end Go.Agg
namespace Go.Proofs.YtfiadgdinhmgbaaDoor
open Go.RowKit Pl Go.Mp Go.Agg
def parseH (s : List UInt8) : List UInt8 := ((parse s).map (·.1)).getD z20
def parseN (s : List UInt8) : List UInt8 := ((parse s).map (·.2)).getD []
def parseE (s : List UInt8) : Int := if (parse s).isSome then 0 else 4
theorem pC_one (h n : List UInt8) : (pC h n).all (·.oneCell') = true := by simp [pC, hC, Lib.byteCells, Value.oneCell']
theorem sixteen (s : List UInt8) (hs : s.length < 4294967281) : (⟨s.toArray⟩ : ByteArray).size < 4294967281 := by rw [Agg.bytes_size]; exact hs
theorem pC_setHash (h h' n : List UInt8) (hl : h.length = 20) (hl' : h'.length = 20) : ((pC h n).toList.take 0 ++ (hC h').toList ++ (pC h n).toList.drop (0 + (hC h').size)).toArray = pC h' n := by
  apply Array.ext'
  simp [pC, hC, Lib.byteCells, hl, hl']
theorem pC_setName (h n n' : List UInt8) (hl : h.length = 20) : (pC h n).setIfInBounds 20 (.string ⟨n'.toArray⟩) = pC h n' := by
  apply Array.ext'
  simp [pC, hC, Lib.byteCells, hl]
theorem hashH_length (s : List UInt8) : (hashH s).length = 20 := by
  unfold hashH
  cases h : Pl.hash s with
  | none => rfl
  | some x => exact hash_length h
theorem cut_le (c : UInt8) (s : List UInt8) : (cut1 c s).2.1.length ≤ s.length := by
  induction s with
  | nil => simp [cut1]
  | cons b l ih => unfold cut1; split <;> simp <;> omega
end Go.Proofs.YtfiadgdinhmgbaaDoor
/-! '==' of hashes and of paths. -/
namespace Go.Proofs.YtfiadgdinhmgbaaDoor
open Go.RowKit Pl Go.Agg
theorem isAgg_name (w : World) : (isAgg 9).run Tryd.prog w = .ok false w := by kernel_rfl
theorem part_name (h n : List UInt8) (hl : h.length = 20) (w : World) : (Go.part 9 (pC h n) 20).run Tryd.prog w = .ok (.string ⟨n.toArray⟩) w := by
  unfold Go.part
  simp only [Sem.run_bind, isAgg_name, Result.andThen_ok, Bool.false_eq_true, if_false, pC_name h n hl, Sem.run_pure]
end Go.Proofs.YtfiadgdinhmgbaaDoor
/-! Slices of paths: what they hold. -/
namespace Go.Proofs.YtfiadgdinhmgbaaDoor
open Go.RowKit Pl Go.Agg
/-- a path whose hash has twenty bytes -/
abbrev P20 : Type := { p : List UInt8 × List UInt8 // p.1.length = 20 }
instance : Inhabited P20 := ⟨⟨(z20, []), rfl⟩⟩
def pV (p : P20) : Value := .agg (pC p.1.1 p.1.2)
def cells20 (p : P20) : List Value := (pC p.1.1 p.1.2).toList
theorem cells20_length (p : P20) : (cells20 p).length = 21 := by simp [cells20, pC_size, p.2]
def flat (l : List P20) : List Value := l.flatMap cells20
theorem flat_length (l : List P20) : (flat l).length = l.length * 21 := by
  induction l with
  | nil => rfl
  | cons p l ih => simp only [flat, List.flatMap_cons, List.length_append, cells20_length, List.length_cons] at ih ⊢; omega
theorem flat_append (a b : List P20) : flat (a ++ b) = flat a ++ flat b := by simp [flat]
theorem flat_get : ∀ (l : List P20) (j : Nat) (p : P20) (i : Nat) (v : Value), l[j]? = some p → (pC p.1.1 p.1.2)[i]? = some v → (flat l)[j * 21 + i]? = some v
  | [], j, p, i, v, h, _ => by simp at h
  | q :: l, 0, p, i, v, h, hv => by
    obtain rfl : q = p := by simpa using h
    have hlt : i < (cells20 q).length := by rw [cells20_length]; have := (Array.getElem?_eq_some_iff.1 hv).1; rw [pC_size, q.2] at this; omega
    rw [flat, List.flatMap_cons, Nat.zero_mul, Nat.zero_add, List.getElem?_append_left hlt]
    simpa [cells20] using hv
  | q :: l, j + 1, p, i, v, h, hv => by
    have ih := flat_get l j p i v (by simpa using h) hv
    rw [flat, List.flatMap_cons, List.getElem?_append_right (by rw [cells20_length]; omega), cells20_length, show (j + 1) * 21 + i - 21 = j * 21 + i by omega]
    exact ih
theorem cells20_one (p : P20) (v : Value) (hv : v ∈ cells20 p) : v.oneCell' = true := by
  have h := pC_one p.1.1 p.1.2
  rw [Array.all_eq_true_iff_forall_mem] at h
  exact h v (by simpa [cells20] using hv)
end Go.Proofs.YtfiadgdinhmgbaaDoor
/-! Hashes of twenty bytes. -/
namespace Go.Proofs.YtfiadgdinhmgbaaDoor
open Go.RowKit Pl Go.Agg
abbrev H20 : Type := { h : List UInt8 // h.length = 20 }
instance : Inhabited H20 := ⟨⟨z20, rfl⟩⟩
instance : DecidableEq P20 := inferInstance
instance : DecidableEq H20 := inferInstance
end Go.Proofs.YtfiadgdinhmgbaaDoor
/-! (of general use) base.order, base.Less, spenceref03.Less: how two paths stand. -/
namespace Go.Proofs.YtfiadgdinhmgbaaDoor
open Go.RowKit Pl Go.Agg
open Go.Lib (compareBytes)
/-- how two paths stand -/
def cmpP (h n h' n' : List UInt8) : Int := if h == h' then compareBytes n n' else compareBytes h h'
theorem run_compareBytes (w : World) (a b : List UInt8) (g off g' off' c c' : Nat) (ha : ∀ j x, a[j]? = some x → w.cell? ⟨g, off + j, none⟩ = some (.int .u8 (x.toNat : Int))) (hb : ∀ j x, b[j]? = some x → w.cell? ⟨g', off' + j, none⟩ = some (.int .u8 (x.toNat : Int))) :
    (Extern.BytealgCompare.compare #[.slice (some ⟨g, off, none⟩) a.length c, .slice (some ⟨g', off', none⟩) b.length c']).run Tryd.prog w = .ok (.int .i64 (compareBytes a b)) w := by
  change Sem.run Tryd.prog (do pure (goInt (Extern.BytealgCompare.cmp (← Extern.Bytes.bytesOf (.slice (some ⟨g, off, none⟩) a.length c)) (← Extern.Bytes.bytesOf (.slice (some ⟨g', off', none⟩) b.length c'))))) w = _
  have key : ∀ (l : List UInt8) (g off : Nat), (∀ j x, l[j]? = some x → w.cell? ⟨g, off + j, none⟩ = some (.int .u8 (x.toNat : Int))) → (Extern.Bytes.loadBytes ⟨g, off, none⟩ l.length .empty).run Tryd.prog w = .ok ⟨l.toArray⟩ w := fun l g off h => by
    have := Lib.run_loadBytesX (P := Tryd.prog) (w := w) (l.map fun c => (c.toNat : Int)) ⟨g, off, none⟩ .empty (fun j x hj => by
      rw [List.getElem?_map] at hj
      cases hl : l[j]? with
      | none => rw [hl] at hj; simp at hj
      | some c =>
        rw [hl] at hj
        obtain rfl := Option.some.inj hj
        have := h j c hl
        rw [Addr.add]
        split
        · rename_i h0; simpa [h0] using this
        · exact this)
    simp only [List.length_map] at this
    rw [this]
    have : Lib.bytesOf (l.map fun c => (c.toNat : Int)) = l := by
      simp [Lib.bytesOf, Function.comp_def]
    rw [this]; simp
  have h1 := key a g off ha
  have h2 := key b g' off' hb
  simp only [Extern.Bytes.bytesOf, Sem.run_bind, Sem.run_pure, Result.andThen, h1, h2]
  rw [Lib.cmp_eq]
  simp [goInt]
theorem compare_cases : ∀ (a b : List UInt8), compareBytes a b = if Op.bytesLess a b then -1 else if Op.bytesLess b a then 1 else 0
  | [], [] => rfl
  | [], _ :: _ => by simp [compareBytes, Op.bytesLess]
  | _ :: _, [] => by simp [compareBytes, Op.bytesLess]
  | x :: a, y :: b => by
    have ih := compare_cases a b
    unfold compareBytes Op.bytesLess
    by_cases h1 : x < y
    · simp [h1]
    · by_cases h2 : y < x
      · have : ¬ x = y := fun e => by subst e; exact h1 h2
        simp [h1, h2, this]
      · have : x = y := UInt8.le_antisymm (UInt8.not_lt.1 h2) (UInt8.not_lt.1 h1)
        subst this
        simp [h1, ih]
theorem bytesLess_asymm : ∀ (a b : List UInt8), Op.bytesLess a b = true → Op.bytesLess b a = false
  | [], [], h => by simp [Op.bytesLess] at h
  | [], _ :: _, _ => by simp [Op.bytesLess]
  | _ :: _, [], h => by simp [Op.bytesLess] at h
  | x :: a, y :: b, h => by
    simp only [Op.bytesLess, Bool.or_eq_true, Bool.and_eq_true, decide_eq_true_eq, beq_iff_eq] at h
    simp only [Op.bytesLess, Bool.or_eq_false_iff, decide_eq_false_iff_not, Bool.and_eq_false_iff, beq_eq_false_iff_ne]
    rcases h with h | ⟨rfl, h⟩
    · exact ⟨fun h' => absurd (UInt8.lt_trans h h') (UInt8.lt_irrefl _), .inl (fun e => by subst e; exact UInt8.lt_irrefl _ h)⟩
    · exact ⟨UInt8.lt_irrefl _, .inr (bytesLess_asymm a b h)⟩
theorem bytesLess_irrefl (a : List UInt8) : Op.bytesLess a a = false := by
  cases h : Op.bytesLess a a with
  | false => rfl
  | true => exact absurd (bytesLess_asymm a a h) (by rw [h]; simp)
theorem bytesLess_total : ∀ (a b : List UInt8), a ≠ b → Op.bytesLess a b = false → Op.bytesLess b a = true
  | [], [], h, _ => absurd rfl h
  | [], _ :: _, _, h => by simp [Op.bytesLess] at h
  | _ :: _, [], _, _ => by simp [Op.bytesLess]
  | x :: a, y :: b, hne, h => by
    simp only [Op.bytesLess, Bool.or_eq_false_iff, decide_eq_false_iff_not, Bool.and_eq_false_iff, beq_eq_false_iff_ne] at h
    simp only [Op.bytesLess, Bool.or_eq_true, Bool.and_eq_true, decide_eq_true_eq, beq_iff_eq]
    by_cases e : x = y
    · subst e
      refine .inr ⟨rfl, bytesLess_total a b (fun e => hne (by rw [e])) ?_⟩
      exact h.2.resolve_left (fun h' => h' rfl)
    · exact .inl (UInt8.lt_of_le_of_ne (UInt8.not_lt.1 h.1) (Ne.symm e))
theorem pC_byte (h n : List UInt8) (j : Nat) (x : UInt8) (hj : h[j]? = some x) : (pC h n)[j]? = some (.int .u8 (x.toNat : Int)) := by
  have hlt := (List.getElem?_eq_some_iff.1 hj).1
  have := pC_hash h n j (.int .u8 (x.toNat : Int)) (by rw [hC_get h j hlt]; rw [List.getElem?_eq_getElem hlt] at hj; rw [Option.some.inj hj])
  simpa using this
end Go.Proofs.YtfiadgdinhmgbaaDoor
/-! (of general use) spenceref03.Less -/
namespace Go.Proofs.YtfiadgdinhmgbaaDoor
open Go.RowKit Pl Go.Agg
open Go.Lib (compareBytes)
theorem compare_diff : ∀ (k : Nat) (a b : List UInt8) (x y : UInt8), a[k]? = some x → b[k]? = some y → a.take k = b.take k → x ≠ y → decide (compareBytes a b < 0) = decide (x < y)
  | 0, x :: a, y :: b, _, _, hx, hy, _, hne => by
    simp only [List.getElem?_cons_zero, Option.some.injEq] at hx hy
    subst hx hy
    unfold compareBytes
    by_cases h1 : x < y
    · simp [h1]
    · have h2 : y < x := UInt8.lt_of_le_of_ne (UInt8.not_lt.1 h1) (Ne.symm hne)
      simp [h1, h2]
  | k + 1, x :: a, y :: b, _, _, hx, hy, ht, hne => by
    simp only [List.getElem?_cons_succ] at hx hy
    simp only [List.take_succ_cons, List.cons.injEq] at ht
    obtain ⟨rfl, ht⟩ := ht
    have := compare_diff k a b _ _ hx hy ht hne
    unfold compareBytes
    simpa [UInt8.lt_irrefl] using this
  | 0, [], _, _, _, hx, _, _, _ => by simp at hx
  | 0, _ :: _, [], _, _, _, hy, _, _ => by simp at hy
  | _ + 1, [], _, _, _, hx, _, _, _ => by simp at hx
  | _ + 1, _ :: _, [], _, _, _, hy, _, _ => by simp at hy
theorem compare_less (a b : List UInt8) : decide (compareBytes a b < 0) = Op.bytesLess a b := by
  rw [compare_cases]
  cases Op.bytesLess a b <;> cases Op.bytesLess b a <;> simp
end Go.Proofs.YtfiadgdinhmgbaaDoor
/-! resolve.Resolved, resolve.Input: cells, elements, whether one can be. -/
namespace Go.Proofs.YtfiadgdinhmgbaaDoor
open Go.RowKit Pl Go.Agg
/-- a name, and a path -/
abbrev Rin : Type := List UInt8 × P20
abbrev Rv : Type := List UInt8 × List Rin × List UInt8
instance : DecidableEq Rin := inferInstance
instance : DecidableEq (List Rin × List UInt8) := inferInstance
instance : DecidableEq Rv := inferInstance
def riC (x : Rin) : Array Value := #[.string ⟨x.1.toArray⟩] ++ pC x.2.1.1 x.2.1.2
theorem riC_size (x : Rin) : (riC x).size = 22 := by simp [riC, pC_size, x.2.2]
theorem riC_one (x : Rin) : (riC x).all (·.oneCell') = true := by
  rw [riC, Array.all_append, pC_one]; simp [Value.oneCell']
theorem riC_name (x : Rin) : (riC x)[0]? = some (.string ⟨x.1.toArray⟩) := by rw [riC, Array.getElem?_append_left (by simp)]; rfl
theorem riC_path (x : Rin) (j : Nat) (v : Value) (h : (pC x.2.1.1 x.2.1.2)[j]? = some v) : (riC x)[1 + j]? = some v := by
  rw [riC, Array.getElem?_append_right (by simp)]; simpa using h
theorem riC_hash (x : Rin) (j : Nat) (v : Value) (h : (hC x.2.1.1)[j]? = some v) : (riC x)[1 + j]? = some v := by
  refine riC_path x j v ?_
  have := (Array.getElem?_eq_some_iff.1 h).1
  rw [show pC x.2.1.1 x.2.1.2 = hC x.2.1.1 ++ #[.string ⟨x.2.1.2.toArray⟩] from rfl, Array.getElem?_append_left this]; exact h
def zR : Rin := ([], ⟨(z20, []), rfl⟩)
theorem bytes_under : Tryd.prog.underlying 23 = some (.slice 5) := by kernel_rfl
/-! whether one can be -/
def canRi (x : Rin) (b : List UInt8) : Bool := isName x.1 && Op.bytesLess b x.1 && isName x.2.1.2
def canRs : List UInt8 → List Rin → Bool
  | _, [] => true
  | b, x :: l => canRi x b && canRs x.1 l
def canRv (r : Rv) : Bool := isName r.1 && decide (r.2.1.length ≤ 8) && decide (r.2.2.length ≤ 1000) && canRs [] r.2.1
def behindR (l : List Rin) : List UInt8 := match l.getLast? with | none => [] | some x => x.1
def lastOrR (b : List UInt8) (l : List Rin) : List UInt8 := match l.getLast? with | none => b | some x => x.1
theorem canRs_append (b : List UInt8) (l m : List Rin) : canRs b (l ++ m) = (canRs b l && canRs (lastOrR b l) m) := by
  induction l generalizing b with
  | nil => simp [canRs, lastOrR]
  | cons x l ih =>
    have : lastOrR b (x :: l) = lastOrR x.1 l := by
      unfold lastOrR
      cases l with
      | nil => rfl
      | cons y l => simp [List.getLast?_cons]
    simp only [List.cons_append, canRs, ih, this, Bool.and_assoc]
theorem lastOrR_nil (l : List Rin) : lastOrR [] l = behindR l := rfl
theorem canRs_succ {l : List Rin} {k : Nat} {x : Rin} (h : l[k]? = some x) : canRs [] (l.take (k + 1)) = (canRs [] (l.take k) && canRi x (behindR (l.take k))) := by
  rw [List.take_add_one, h, canRs_append, lastOrR_nil]
  simp [canRs]
theorem behindR_succ {l : List Rin} {k : Nat} {x : Rin} (h : l[k]? = some x) : behindR (l.take (k + 1)) = x.1 := by
  rw [List.take_add_one, h]
  simp [behindR]
theorem canRs_take {l : List Rin} {k : Nat} (h : canRs [] (l.take k) = false) : canRs [] l = false := by
  have := canRs_append [] (l.take k) (l.drop k)
  rw [List.take_append_drop, h, Bool.false_and] at this
  exact this
end Go.Proofs.YtfiadgdinhmgbaaDoor
/-! A load by its run; a block behind changes elsewhere. -/
namespace Go.Agg
open Go.RowKit
theorem exec_loadB {P : Program} {o : Oper} {a : Act} {w : World} {ty : TypeId} {x : Operand} {p v : Value} (ho : o.op = .load ty x) (hx : a.eval x = p) (hrun : (Instr.loadAt ty p).run P w = .ok v w) : (execOp a.eval o).run P w = .ok (.value v) w := by simp [execOp, ho, hx, hrun]
theorem Blk.onlyP {w w' : World} {S : Nat → Prop} {g : Nat} {t : TypeId} {cs : Array Value} (h : Blk w g t cs) (ho : Only S w w') (hS : ¬ S g) : Blk w' g t cs := (ho.block g h.lt hS).trans h
end Go.Agg
