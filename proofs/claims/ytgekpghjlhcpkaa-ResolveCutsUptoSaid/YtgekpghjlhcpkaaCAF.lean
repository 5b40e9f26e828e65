/- Blocks that a step leaves alone. (Several texts in one.) -/
import Derived.Test.YtgekpghjlhcpkaaCAD
import Derived.Test.YtgekpghjlhcpkaaCAA
import Derived.Test.YtgekpghjlhcpkaaCAC
import Derived.Test.YtgekpghjlhcpkaaCAB
/-! spencekit.SameBytes. -/
namespace Go.Proofs.Ytgekpghjlhcpkaa
open Go.RowKit Pl Go.Agg
theorem take_eq_succ {α : Type} {a b : List α} {k : Nat} {x y : α} (hx : a[k]? = some x) (hy : b[k]? = some y) (h : a.take k = b.take k) (hxy : x = y) : a.take (k + 1) = b.take (k + 1) := by
  rw [List.take_add_one, List.take_add_one, hx, hy, h, hxy]
theorem ne_at {α : Type} {a b : List α} {k : Nat} {x y : α} (hx : a[k]? = some x) (hy : b[k]? = some y) (hxy : x ≠ y) : a ≠ b := by
  rintro rfl
  exact hxy (Option.some.inj (hx.symm.trans hy))
theorem i64_nat {a b : Nat} (h : a = b) : Value.int .i64 (a : Int) = .int .i64 (b : Int) := by rw [h]
set_option maxRecDepth 100000 in
set_option maxHeartbeats 1000000 in
theorem sameBytes_any (v u : Value) (a b : List UInt8) (_ha : a.length ≤ 1048576) (hb : b.length ≤ 1048576) (w : World) (he : BytesAt w v a) (hf : BytesAt w u b) :
    Calls Try.prog 24 #[v, u] w fun e w' => e = .returned (.bool (decide (a = b))) ∧ Below w.heap.size w w' := by
  have hlv := fun W => bytes_len he W
  have hlu := fun W => bytes_len hf W
  have HE := Lib.hid he
  have HF := Lib.hid hf
  clear he hf
  by_cases hlen : a.length = b.length
  · have hne : ((a.length : Int) != (b.length : Int)) = false := by simp [hlen]
    have HLEN := Lib.hid hlen
    rw [hlen] at hlv hne
    clear hlen
    go_enter Try.func24, Try.ntmps24
    go_wp2_with fail
    go_loopw [5] (fun i wr => ∃ k : Nat, k ≤ b.length ∧ i = .int .i64 k ∧ a.take k = b.take k ∧ Below w.heap.size w wr) (fun i _ => b.length - (intOf i).toNat)
    case atStart => exact ⟨0, by omega, rfl, rfl, Below.refl _ _⟩
    case round =>
      obtain ⟨w1, rfl⟩ : ∃ w1 : World, w1 = wr := ⟨_, rfl⟩
      obtain ⟨k, hk, rfl, htk, hw⟩ := hrel
      have HTK := Lib.hid htk
      clear htk
      by_cases hlt : k < b.length
      · obtain ⟨y, hyk⟩ : ∃ y, b[k]? = some y := ⟨_, List.getElem?_eq_getElem hlt⟩
        obtain ⟨x, hxk⟩ : ∃ x, a[k]? = some x := ⟨_, List.getElem?_eq_getElem (by rw [HLEN.out]; exact hlt)⟩
        obtain ⟨p, hadr, hld⟩ := byte_at (HE.out.below hw) k x hxk
        obtain ⟨q, hadq, hlq⟩ := byte_at (HF.out.below hw) k y hyk
        have HLX := Lib.hid hld
        have HLY := Lib.hid hlq
        clear hld hlq
        have HX := Lib.hid hxk
        have HY := Lib.hid hyk
        clear hxk hyk
        by_cases hxy : x = y
        · have HXY := Lib.hid hxy
          have hq : ((x.toNat : Int) != (y.toNat : Int)) = false := by simp [hxy]
          clear hxy
          go_wp2_with fail
          try simp only [Act.put, List.setIfInBounds_toArray, List.set_cons_succ, List.set_cons_zero]
          refine Agg.wp_region_later_lit (by kernel_rfl) (by kernel_rfl) ?_
          repeat (first | go_big_quiet_skip | ((first | (with_reducible refine Agg.wpQuiet_loadL HLX.out rfl _ rfl rfl ?_) | (with_reducible refine Agg.wpQuiet_loadL HLY.out rfl _ rfl rfl ?_)); simp only [Act.put, List.setIfInBounds_toArray, List.set_cons_succ, List.set_cons_zero]) | go_big_quiet_step (fail))
          refine wpQuiet_nil ?_
          intro _ hw'
          obtain ⟨x1, rfl⟩ := hw'
          go_wp2_with fail
          go_roundw
          case rel => exact ⟨k + 1, by omega, by go_num, take_eq_succ HX.out HY.out HTK.out HXY.out, Agg.belowThen hw (Nat.le_refl _) x1.h⟩
          case measure => simp [intOf]; omega
        · have HXY := Lib.hid hxy
          have hq : ((x.toNat : Int) != (y.toNat : Int)) = true := by rw [bne_iff_ne]; intro e; exact hxy (UInt8.toNat_inj.1 (by omega))
          clear hxy
          go_wp2_with fail
          try simp only [Act.put, List.setIfInBounds_toArray, List.set_cons_succ, List.set_cons_zero]
          refine Agg.wp_region_later_lit (by kernel_rfl) (by kernel_rfl) ?_
          repeat (first | go_big_quiet_skip | ((first | (with_reducible refine Agg.wpQuiet_loadL HLX.out rfl _ rfl rfl ?_) | (with_reducible refine Agg.wpQuiet_loadL HLY.out rfl _ rfl rfl ?_)); simp only [Act.put, List.setIfInBounds_toArray, List.set_cons_succ, List.set_cons_zero]) | go_big_quiet_step (fail))
          refine wpQuiet_nil ?_
          intro _ hw'
          obtain ⟨x1, rfl⟩ := hw'
          have hres : decide (a = b) = false := by simpa using ne_at HX.out HY.out HXY.out
          have HR := Lib.hid hres
          clear hres
          go_wp2_with fail
          go_ret
          exact ⟨ret_bool HR.out.symm, Agg.belowThen hw (Nat.le_refl _) x1.h⟩
      · obtain rfl : k = b.length := by omega
        have hres : decide (a = b) = true := by
          have := HTK.out
          rw [List.take_length, List.take_of_length_le (by rw [HLEN.out]; omega)] at this
          simpa using this
        have HR := Lib.hid hres
        clear hres
        go_wp2_with fail
        go_ret
        exact ⟨ret_bool HR.out.symm, hw⟩
  · have hne : ((a.length : Int) != (b.length : Int)) = true := by rw [bne_iff_ne]; omega
    have hres : decide (a = b) = false := by simp; exact fun e => hlen (by rw [e])
    have HR := Lib.hid hres
    clear hres
    go_enter Try.func24, Try.ntmps24
    go_wp2_with fail
    go_ret
    exact ⟨ret_bool HR.out.symm, Below.refl _ _⟩
end Go.Proofs.Ytgekpghjlhcpkaa
/-! Builts, and what was made: their cells; both as elements of slices. -/
namespace Go.Proofs.Ytgekpghjlhcpkaa
open Go.RowKit Pl Go.Agg
/-- a class and a path -/
abbrev Md : Type := H20 × P20
instance : DecidableEq Md := inferInstance
instance : DecidableEq (List Md) := inferInstance
/-- a built -/
structure Bu where
  cl : H20
  ky : H20
  pa : P20
  by_ : Int
  ins : List Md
  deriving DecidableEq
/-- how a slice lies -/
abbrev IV : Type := Option Addr × Nat × Nat
def ivV (i : IV) : Value := .slice i.1 i.2.1 i.2.2
/-- a built, and how its inputs lie -/
abbrev BuV : Type := Bu × IV
def mC (x : Md) : Array Value := hC x.1.1 ++ pC x.2.1.1 x.2.1.2
def bC (x : BuV) : Array Value := hC x.1.cl.1 ++ (hC x.1.ky.1 ++ (pC x.1.pa.1.1 x.1.pa.1.2 ++ #[.int .i64 x.1.by_, ivV x.2]))
def zM : Md := (⟨z20, rfl⟩, ⟨(z20, []), rfl⟩)
def zB : Bu := ⟨⟨z20, rfl⟩, ⟨z20, rfl⟩, ⟨(z20, []), rfl⟩, 0, []⟩
theorem mC_size (x : Md) : (mC x).size = 41 := by simp [mC, pC_size, hC_size, x.1.2, x.2.2]
theorem bC_size (x : BuV) : (bC x).size = 63 := by simp [bC, pC_size, hC_size, x.1.cl.2, x.1.ky.2, x.1.pa.2]
theorem mC_one (x : Md) : (mC x).all (·.oneCell') = true := by rw [mC, Array.all_append, pC_one, hC_one]; rfl
theorem bC_one (x : BuV) : (bC x).all (·.oneCell') = true := by
  rw [bC, Array.all_append, Array.all_append, Array.all_append, pC_one, hC_one, hC_one]; simp [Value.oneCell', ivV]
theorem mC_cl (x : Md) (j : Nat) (v : Value) (h : (hC x.1.1)[j]? = some v) : (mC x)[0 + j]? = some v := by
  have := (Array.getElem?_eq_some_iff.1 h).1
  rw [mC, Nat.zero_add, Array.getElem?_append_left this]; exact h
theorem mC_pa (x : Md) (j : Nat) (v : Value) (h : (pC x.2.1.1 x.2.1.2)[j]? = some v) : (mC x)[20 + j]? = some v := by
  rw [mC, Array.getElem?_append_right (by rw [hC_size, x.1.2]; omega), hC_size, x.1.2, show 20 + j - 20 = j by omega]; exact h
theorem bC_cl (x : BuV) (j : Nat) (v : Value) (h : (hC x.1.cl.1)[j]? = some v) : (bC x)[0 + j]? = some v := by
  have := (Array.getElem?_eq_some_iff.1 h).1
  rw [bC, Nat.zero_add, Array.getElem?_append_left this]; exact h
theorem bC_ky (x : BuV) (j : Nat) (v : Value) (h : (hC x.1.ky.1)[j]? = some v) : (bC x)[20 + j]? = some v := by
  have := (Array.getElem?_eq_some_iff.1 h).1
  rw [bC, Array.getElem?_append_right (by rw [hC_size, x.1.cl.2]; omega), hC_size, x.1.cl.2, show 20 + j - 20 = j by omega, Array.getElem?_append_left this]; exact h
theorem bC_pa (x : BuV) (j : Nat) (v : Value) (h : (pC x.1.pa.1.1 x.1.pa.1.2)[j]? = some v) : (bC x)[40 + j]? = some v := by
  have := (Array.getElem?_eq_some_iff.1 h).1
  rw [bC, Array.getElem?_append_right (by rw [hC_size, x.1.cl.2]; omega), hC_size, x.1.cl.2, show 40 + j - 20 = 20 + j by omega, Array.getElem?_append_right (by rw [hC_size, x.1.ky.2]; omega), hC_size, x.1.ky.2, show 20 + j - 20 = j by omega, Array.getElem?_append_left this]; exact h
theorem bC_tail (x : BuV) (j : Nat) : (bC x)[61 + j]? = (#[.int .i64 x.1.by_, ivV x.2] : Array Value)[j]? := by
  rw [bC, Array.getElem?_append_right (by rw [hC_size, x.1.cl.2]; omega), hC_size, x.1.cl.2, show 61 + j - 20 = 41 + j by omega, Array.getElem?_append_right (by rw [hC_size, x.1.ky.2]; omega), hC_size, x.1.ky.2, show 41 + j - 20 = 21 + j by omega, Array.getElem?_append_right (by rw [pC_size, x.1.pa.2]; omega), pC_size, x.1.pa.2, show 21 + j - (20 + 1) = j by omega]
theorem mC_zero : (Try.prog.info? 72).map (·.zero) = some (some (.agg (mC zM))) := by kernel_rfl
theorem mC_info (x : Md) : (Try.prog.info? 72).map (·.size) = some (mC x).size := by rw [mC_size]; kernel_rfl
theorem mC_under : Try.prog.underlying 72 = some (.struct (Try.prog.fieldsOf 72)) := by kernel_rfl
theorem made_under : Try.prog.underlying 26 = some (.slice 72) := by kernel_rfl
/-- what was made, as elements -/
def EMd : Elem Try.prog Md where
  ty := 72
  st := 26
  n := 41
  bytes := 64
  val := fun x => .agg (mC x)
  zero := .agg (mC zM)
  pos := by omega
  small := by omega
  size := fun x => by simp [Value.cells, mC_size]
  one := fun x v hv => one_of (mC_one x) v hv
  zsize := by simp [Value.cells, mC_size]
  slice := by kernel_rfl
  info := info_of mC_zero (by kernel_rfl) (by kernel_rfl)
  load := fun w a x hp h => LoadsL.of_cells hp h mC_under rfl (mC_info x)
abbrev MdsAt (w : World) (v : Value) (l : List Md) : Prop := SliceOf EMd w v l
theorem mds_len {w : World} {v : Value} {l : List Md} (h : MdsAt w v l) (W : World) : (Builtin.len_ #[26] 3 #[v]).run Try.prog W = .ok (.int .i64 (l.length : Int)) W := h.len W
/-- builts: each, with its inputs -/
def InsAt (w : World) (x : BuV) : Prop := MdsAt w (ivV x.2) x.1.ins
theorem InsAt.below {w w' : World} {x : BuV} (h : InsAt w x) (hb : Below w.heap.size w w') : InsAt w' x := SliceOf.below h hb
/-- what lies at one that was made -/
structure MdL (w : World) (p : Addr) (x : Md) : Prop where
  all : LoadsL Try.prog w 72 (some p) (.agg (mC x))
  cls : LoadsL Try.prog w 45 (some (p.add 0)) (.agg (hC x.1.1))
  path : LoadsL Try.prog w 47 (some (p.add 20)) (.agg (pC x.2.1.1 x.2.1.2))
  pname : LoadsL Try.prog w 9 (some ((p.add 20).add 20)) (.string ⟨x.2.1.2.toArray⟩)
theorem MdL.of_cells {w : World} {p : Addr} {x : Md} (hp : p.block < w.heap.size) (h : ∀ j u, (mC x)[j]? = some u → w.cell? (p.add j) = some u) : MdL w p x where
  all := LoadsL.of_cells hp h mC_under rfl (mC_info x)
  cls := LoadsL.of_cells (by rw [add_block]; exact hp) (fun j v hj => by rw [add_add]; exact h _ _ (mC_cl x j v hj)) Try.underlying45 rfl (hC_info _ x.1.2)
  path := LoadsL.of_cells (by rw [add_block]; exact hp) (fun j v hj => by rw [add_add]; exact h _ _ (mC_pa x j v hj)) pC_under rfl (pC_info _ _ x.2.2)
  pname := LoadsL.of_cell (by rw [add_add]; exact h _ _ (mC_pa x 20 _ (pC_name _ _ x.2.2))) Try.underlying9 rfl
theorem MdL.below {w w' : World} {p : Addr} {x : Md} (h : MdL w p x) (hb : Below w.heap.size w w') : MdL w' p x := ⟨h.all.below hb, h.cls.below hb, h.path.below hb, h.pname.below hb⟩
theorem mds_at {w : World} {v : Value} {l : List Md} (h : MdsAt w v l) (k : Nat) (x : Md) (hk : l[k]? = some x) :
    ∃ q : Addr, (∀ W, (Instr.indexAt 26 v (.int .i64 (k : Int))).run Try.prog W = .ok (.pointer (some q)) W) ∧ MdL w q x := by
  obtain ⟨p, h1, h2, h3, _⟩ := h.at_ k x hk
  exact ⟨p, h1, MdL.of_cells h2 h3⟩
/-- what lies in a box with one -/
structure MdG (w : World) (b : Nat) (x : Md) : Prop where
  all : LoadsL Try.prog w 72 (some ⟨b, 0, none⟩) (.agg (mC x))
  cls : LoadsL Try.prog w 45 (some ⟨b, 0, none⟩) (.agg (hC x.1.1))
  path : LoadsL Try.prog w 47 (some ⟨b, 20, none⟩) (.agg (pC x.2.1.1 x.2.1.2))
  pname : LoadsL Try.prog w 9 (some ⟨b, 40, none⟩) (.string ⟨x.2.1.2.toArray⟩)
theorem MdG.of_blk {w : World} {b : Nat} {x : Md} (h : Blk w b 72 (mC x)) : MdG w b x := by
  have H := MdL.of_cells (w := w) (p := ⟨b, 0, none⟩) (x := x) h.lt (fun j u hj => by rw [add_plain, h.cell, Nat.zero_add]; exact hj)
  exact ⟨H.all, H.cls, H.path, H.pname⟩
theorem MdG.below {w w' : World} {b : Nat} {x : Md} (h : MdG w b x) (hb : Below w.heap.size w w') : MdG w' b x := ⟨h.all.below hb, h.cls.below hb, h.path.below hb, h.pname.below hb⟩
theorem MdL.of_blk {w : World} {g : Nat} {x : Md} (h : Blk w g 72 (mC x)) : MdL w ⟨g, 0, none⟩ x :=
  MdL.of_cells h.lt fun j u hj => by rw [add_plain, h.cell, Nat.zero_add]; exact hj
end Go.Proofs.Ytgekpghjlhcpkaa
/-! '==' of what was made, of hashes, of paths; slices.Equal, spencekit.SameMades, SameBuilt, SameBuilts. -/
namespace Go.Proofs.Ytgekpghjlhcpkaa
open Go.RowKit Pl Go.Agg
theorem eqlInP (d : Nat) (p q : P20) (w : World) : (Op.equalIn (d + 3) 47 (.agg (pC p.1.1 p.1.2)) (.agg (pC q.1.1 q.1.2))).run Try.prog w = .ok (decide (p = q)) w := by
  rw [run_equalIn_struct w (d + 2) 47 _ _ pC_under (by kernel_rfl)]
  have hf := path_fields
  generalize (Try.prog.fieldsOf 47).toList = fs at hf ⊢
  cases fs with
  | nil => exact absurd hf (by simp)
  | cons f1 fs =>
  cases fs with
  | nil => exact absurd hf (by simp)
  | cons f2 fs =>
  cases fs with
  | cons f3 fs => exact absurd hf (by simp)
  | nil =>
    simp only [List.map_cons, List.map_nil, List.cons.injEq, Prod.mk.injEq, and_true] at hf
    obtain ⟨⟨a1, a2, a3⟩, b1, b2, b3⟩ := hf
    have e : decide (p = q) = (p.1.1 == q.1.1 && p.1.2 == q.1.2) := by
      rw [Bool.eq_iff_iff]
      simp [Subtype.ext_iff, Prod.ext_iff]
    rw [e]
    simp only [Op.eqFields, a1, a2, a3, b1, b2, b3, Sem.run_bind, Sem.run_ite, part_hash _ _ p.2, part_hash _ _ q.2, part_name _ _ p.2, part_name _ _ q.2, Result.andThen_ok, eqlIn_hash d _ _ p.2 q.2, run_equalIn_string w (d + 1) 9 _ _ Try.underlying9, Agg.bytes_toList]
    cases p.1.1 == q.1.1 <;> cases p.1.2 == q.1.2 <;> simp
theorem partAgg {ty : TypeId} {n : Nat} (ha : ∀ w, (isAgg ty).run Try.prog w = .ok true w) (hs : ∀ w, (sizeOf ty).run Try.prog w = .ok n w) (cs ds : Array Value) (off : Nat) (hn : ds.size = n) (h : ∀ j v, ds[j]? = some v → cs[off + j]? = some v) (w : World) :
    (Go.part ty cs off).run Try.prog w = .ok (.agg ds) w := by
  unfold Go.part
  simp only [Sem.run_bind, ha, Result.andThen_ok, if_true, hs, Sem.run_pure]
  congr 2
  apply Array.ext_getElem?
  intro j
  by_cases hj : j < n
  · have h1 : ds[j]? = some (ds[j]'(by omega)) := Array.getElem?_eq_getElem _
    have h2 := h j _ h1
    have h3 := (Array.getElem?_eq_some_iff.1 h2).1
    rw [h1, Array.getElem?_extract]
    rw [if_pos (by omega)]
    exact h2
  · rw [Array.getElem?_eq_none (xs := ds) (by omega), Array.getElem?_eq_none (by simp; omega)]
theorem made_fields : (Try.prog.fieldsOf 72).toList.map (fun f => (f.name, f.type, f.offset)) = [("Class", 45, 0), ("Path", 47, 20)] := by kernel_rfl
theorem isAggP (w : World) : (isAgg 47).run Try.prog w = .ok true w := by kernel_rfl
theorem sizeP (w : World) : (sizeOf 47).run Try.prog w = .ok 21 w := by kernel_rfl
theorem part_mcl (x : Md) (w : World) : (Go.part 45 (mC x) 0).run Try.prog w = .ok (.agg (hC x.1.1)) w := partAgg isAgg_hash size_hash _ _ 0 (by rw [hC_size, x.1.2]) (mC_cl x) w
theorem part_mpa (x : Md) (w : World) : (Go.part 47 (mC x) 20).run Try.prog w = .ok (.agg (pC x.2.1.1 x.2.1.2)) w := partAgg isAggP sizeP _ _ 20 (by rw [pC_size, x.2.2]) (mC_pa x) w
theorem eqlInM (d : Nat) (x y : Md) (w : World) : (Op.equalIn (d + 4) 72 (.agg (mC x)) (.agg (mC y))).run Try.prog w = .ok (decide (x = y)) w := by
  rw [run_equalIn_struct w (d + 3) 72 _ _ mC_under (by kernel_rfl)]
  have hf := made_fields
  generalize (Try.prog.fieldsOf 72).toList = fs at hf ⊢
  cases fs with
  | nil => exact absurd hf (by simp)
  | cons f1 fs =>
  cases fs with
  | nil => exact absurd hf (by simp)
  | cons f2 fs =>
  cases fs with
  | cons f3 fs => exact absurd hf (by simp)
  | nil =>
    simp only [List.map_cons, List.map_nil, List.cons.injEq, Prod.mk.injEq, and_true] at hf
    obtain ⟨⟨a1, a2, a3⟩, b1, b2, b3⟩ := hf
    have e : decide (x = y) = (x.1.1 == y.1.1 && decide (x.2 = y.2)) := by
      rw [Bool.eq_iff_iff]
      simp [Subtype.ext_iff, Prod.ext_iff]
    rw [e]
    simp only [Op.eqFields, a1, a2, a3, b1, b2, b3, Sem.run_bind, Sem.run_ite, part_mcl, part_mpa, Result.andThen_ok, eqlIn_hash (d + 1) _ _ x.1.2 y.1.2, eqlInP d]
    cases x.1.1 == y.1.1 <;> cases decide (x.2 = y.2) <;> simp
theorem neqM (x y : Md) (w : World) : (binOp .neq 72 (.agg (mC x)) (.agg (mC y))).run Try.prog w = .ok (.bool (!decide (x = y))) w := by rw [run_neq_struct, eqlInM 9996]; rfl
theorem eqlHB (x y : H20) (w : World) : (binOp .eql 45 (.agg (hC x.1)) (.agg (hC y.1))).run Try.prog w = .ok (.bool (decide (x = y))) w := by
  rw [eql_hash _ _ x.2 y.2]
  congr 2
  rw [Bool.eq_iff_iff]; simp [Subtype.ext_iff]
theorem eqlPB (x y : P20) (w : World) : (binOp .eql 47 (.agg (pC x.1.1 x.1.2)) (.agg (pC y.1.1 y.1.2))).run Try.prog w = .ok (.bool (decide (x = y))) w := by rw [run_eql_struct, eqlInP 9997]; rfl
theorem neqPB (x y : P20) (w : World) : (binOp .neq 47 (.agg (pC x.1.1 x.1.2)) (.agg (pC y.1.1 y.1.2))).run Try.prog w = .ok (.bool (!decide (x = y))) w := by rw [run_neq_struct, eqlInP 9997]; rfl
/-- alike up to a place -/
def AlikeU {α : Type} (l m : List α) (k : Nat) : Prop := ∀ (j : Nat), j < k → l[j]? = m[j]?
theorem alikeU_all {α : Type} {l m : List α} (hl : l.length = m.length) (h : AlikeU l m l.length) : l = m := by
  refine List.ext_getElem? fun j => ?_
  by_cases hj : j < l.length
  · exact h j hj
  · rw [List.getElem?_eq_none (by omega), List.getElem?_eq_none (by omega)]
theorem alikeU_succ {α : Type} {l m : List α} {k : Nat} (h : AlikeU l m k) (hk : l[k]? = m[k]?) : AlikeU l m (k + 1) := fun j hj => by
  by_cases e : j = k
  · subst e; exact hk
  · exact h j (by omega)
end Go.Proofs.Ytgekpghjlhcpkaa
/-! Comparison of strings, as operations. -/
namespace Go.Agg
open Go.RowKit
section
variable {P : Program} {ops : Array Oper} {rest : List Oper} {o : Oper} {a : Act} {w : World} {Q : Exit → Act → World → Prop} {t u : TypeId} {x y : Operand} {s r : List UInt8}
theorem exec_geqS (ho : o.op = .binOp .geq t x y u) (hx : a.eval x = .string ⟨s.toArray⟩) (hy : a.eval y = .string ⟨r.toArray⟩) : (execOp a.eval o).run P w = .ok (.value (.bool (!Op.bytesLess s r))) w := by
  simp only [execOp, ho, hx, hy]
  simp only [binOp, Op.stringOp, bytes_toList, eqGuard]
  first | rfl | simp
theorem exec_eqlS (ho : o.op = .binOp .eql t x y u) (hx : a.eval x = .string ⟨s.toArray⟩) (hy : a.eval y = .string ⟨r.toArray⟩) : (execOp a.eval o).run P w = .ok (.value (.bool (decide (s = r)))) w := by
  rw [← show (s == r) = decide (s = r) from by by_cases h : s = r <;> simp [h]]
  simp only [execOp, ho, hx, hy]
  simp only [binOp, Op.stringOp, bytes_toList, eqGuard]
  first | rfl | simp
theorem exec_neqS (ho : o.op = .binOp .neq t x y u) (hx : a.eval x = .string ⟨s.toArray⟩) (hy : a.eval y = .string ⟨r.toArray⟩) : (execOp a.eval o).run P w = .ok (.value (.bool (!decide (s = r)))) w := by
  rw [← show (s == r) = decide (s = r) from by by_cases h : s = r <;> simp [h]]
  simp only [execOp, ho, hx, hy]
  simp only [binOp, Op.stringOp, bytes_toList, eqGuard]
  first | rfl | simp
theorem wpQuiet_geqS {C : World → Prop} {Q : Act → Prop} (hw : Region.wanted o (yielded ops a.tmps) = true) (ho : o.op = .binOp .geq t x y u) (hx : a.eval x = .string ⟨s.toArray⟩) (hy : a.eval y = .string ⟨r.toArray⟩) (b : Bool) (hb : (!Op.bytesLess s r) = b)
    (h : wpQuiet P ops C Q rest (a.put o.dst (.bool b))) : wpQuiet P ops C Q (o :: rest) a := by
  subst hb
  exact wpQuiet_val hw _ (fun _ _ => exec_geqS ho hx hy) h
theorem wpQuiet_eqlS {C : World → Prop} {Q : Act → Prop} (hw : Region.wanted o (yielded ops a.tmps) = true) (ho : o.op = .binOp .eql t x y u) (hx : a.eval x = .string ⟨s.toArray⟩) (hy : a.eval y = .string ⟨r.toArray⟩) (b : Bool) (hb : decide (s = r) = b)
    (h : wpQuiet P ops C Q rest (a.put o.dst (.bool b))) : wpQuiet P ops C Q (o :: rest) a := by
  subst hb
  exact wpQuiet_val hw _ (fun _ _ => exec_eqlS ho hx hy) h
theorem wpQuiet_neqS {C : World → Prop} {Q : Act → Prop} (hw : Region.wanted o (yielded ops a.tmps) = true) (ho : o.op = .binOp .neq t x y u) (hx : a.eval x = .string ⟨s.toArray⟩) (hy : a.eval y = .string ⟨r.toArray⟩) (b : Bool) (hb : (!decide (s = r)) = b)
    (h : wpQuiet P ops C Q rest (a.put o.dst (.bool b))) : wpQuiet P ops C Q (o :: rest) a := by
  subst hb
  exact wpQuiet_val hw _ (fun _ _ => exec_neqS ho hx hy) h
theorem wpList_eqlS (hw : Region.wanted o (yielded ops a.tmps) = true) (ho : o.op = .binOp .eql t x y u) (hx : a.eval x = .string ⟨s.toArray⟩) (hy : a.eval y = .string ⟨r.toArray⟩) (b : Bool) (hb : decide (s = r) = b) (h : wpList P ops Q rest (a.put o.dst (.bool b)) w) : wpList P ops Q (o :: rest) a w := by
  subst hb
  exact wpList_valw hw (exec_eqlS ho hx hy) h
theorem wpList_neqS (hw : Region.wanted o (yielded ops a.tmps) = true) (ho : o.op = .binOp .neq t x y u) (hx : a.eval x = .string ⟨s.toArray⟩) (hy : a.eval y = .string ⟨r.toArray⟩) (b : Bool) (hb : (!decide (s = r)) = b) (h : wpList P ops Q rest (a.put o.dst (.bool b)) w) : wpList P ops Q (o :: rest) a w := by
  subst hb
  exact wpList_valw hw (exec_neqS ho hx hy) h
theorem wpList_geqS (hw : Region.wanted o (yielded ops a.tmps) = true) (ho : o.op = .binOp .geq t x y u) (hx : a.eval x = .string ⟨s.toArray⟩) (hy : a.eval y = .string ⟨r.toArray⟩) (b : Bool) (hb : (!Op.bytesLess s r) = b) (h : wpList P ops Q rest (a.put o.dst (.bool b)) w) : wpList P ops Q (o :: rest) a w := by
  subst hb
  exact wpList_valw hw (exec_geqS ho hx hy) h
end
end Go.Agg
/-! Blocks that a step leaves alone. -/
namespace Go.Agg
open Go.RowKit
variable {P : Program}
theorem Blk.type {w : World} {g : Nat} {t t' : TypeId} {cs cs' : Array Value} (h : Blk w g t cs) (h' : Blk w g t' cs') : t = t' := by
  unfold Blk at h h'
  rw [h] at h'
  injection h' with h'
  injection h' with _ h'
theorem Blk.only {w w' : World} {S : Nat → Prop} {g : Nat} {t : TypeId} {cs : Array Value} (h : Blk w g t cs) (ho : Only S w w') (hS : ¬ S g) : Blk w' g t cs := (ho.block g h.lt hS).trans h
theorem Only.of_eq {w w' : World} {g : Nat} {S : Nat → Prop} (hb : Below g w w') (hs : w'.heap.size = w.heap.size) (hk : ∀ k, k ≠ g → w'.heap[k]? = w.heap[k]?) (hg : S g) : Only S w w' :=
  ⟨hb.os, hb.tape, hb.output, Nat.le_of_eq hs.symm, fun k _ hn => hk k (fun e => hn (e ▸ hg))⟩
end Go.Agg
