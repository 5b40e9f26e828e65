/- Bytes and texts as elements. (Several texts in one.) -/
import Derived.Test.YtfiadgdinhmgbaaGreatDoorEAD
import Derived.Test.YtfiadgdinhmgbaaGreatDoorChecked
import Derived.Test.YtfiadgdinhmgbaaGreatDoorEAA
import Derived.Test.YtfiadgdinhmgbaaGreatDoorEAE
import Derived.BigQuiet
import Derived.Deep.QuietTactic
import Derived.Test.YtfiadgdinhmgbaaGreatDoorShelf
import Derived.BigGuardPart
import Derived.Test.YtfiadgdinhmgbaaGreatDoorEAF
/-! A node put at names, taken away: what is found then. No program in sight. -/
namespace Go.Tr
def putK : List K → List UInt8 → T → List K
 | [], n, x => [(n, x)]
 | (m, t) :: l, n, x => if m = n then (n, x) :: l else if Op.bytesLess n m then (n, x) :: (m, t) :: l else (m, t) :: putK l n x
def dirT : T := .mk 4 [] []
def put (t : T) (x : T) : N → Option T
 | [] => some x
 | n :: ns => if t.kind = 4 then (put ((place t.kids n).getD dirT) x ns).map fun y => .mk t.kind t.bytes (putK t.kids n y) else none
def takeK (l : List K) (n : List UInt8) : List K := l.filter fun x => !decide (x.1 = n)
def turnK (l : List K) (n : List UInt8) (f : T → T) : List K := l.map fun x => if x.1 = n then (x.1, f x.2) else x
def take (t : T) : N → T
 | [] => t
 | [n] => .mk t.kind t.bytes (takeK t.kids n)
 | n :: m :: ns => .mk t.kind t.bytes (turnK t.kids n fun y => take y (m :: ns))
theorem place_putK_eq : ∀ (l : List K) (n : List UInt8) (x : T), (l.Pairwise fun x y => Op.bytesLess x.1 y.1 = true) → place (putK l n x) n = some x
 | [], n, x, _ => by simp [putK, place]
 | (m, t) :: l, n, x, hp => by
  unfold putK
  split
  ·simp [place]
  ·rename_i h
   split
   ·simp [place]
   ·have := place_putK_eq l n x (List.pairwise_cons.1 hp).2
    simp only [place, List.find?_cons, decide_eq_false h] at this ⊢
    exact this
theorem place_putK_ne : ∀ (l : List K) (n m : List UInt8) (x : T), m ≠ n → place (putK l n x) m = place l m
 | [], n, m, x, h => by simp [putK, place, Ne.symm h]
 | (k, t) :: l, n, m, x, h => by
  unfold putK
  split
  ·rename_i e
   subst e
   simp only [place, List.find?_cons, decide_eq_false (Ne.symm h)]
  ·split
   ·simp only [place, List.find?_cons, decide_eq_false (Ne.symm h)]
   ·have := place_putK_ne l n m x h
    simp only [place, List.find?_cons] at this ⊢
    split
    ·rfl
    ·exact this
theorem place_takeK_eq (l : List K) (n : List UInt8) : place (takeK l n) n = none := by
 simp only [place, takeK, Option.map_eq_none_iff, List.find?_eq_none, List.mem_filter, decide_eq_true_eq]
 intro x hx
 simpa using hx.2
theorem place_takeK_ne : ∀ (l : List K) (n m : List UInt8), m ≠ n → place (takeK l n) m = place l m
 | [], n, m, _ => rfl
 | (k, t) :: l, n, m, h => by
  have := place_takeK_ne l n m h
  simp only [place, takeK, List.filter_cons, List.find?_cons] at this ⊢
  by_cases e : k = n
  ·subst e
   simp only [decide_true, Bool.not_true, Bool.false_eq_true, if_false, decide_eq_false (Ne.symm h)]
   exact this
  ·simp only [decide_eq_false e, Bool.not_false, if_true, List.find?_cons]
   split
   ·rfl
   ·exact this
theorem place_turnK_eq (l : List K) (n : List UInt8) (f : T → T) : place (turnK l n f) n = (place l n).map f := by
 induction l with
 | nil => rfl
 | cons x l ih =>
  obtain ⟨k, t⟩ := x
  simp only [place, turnK, List.map_cons, List.find?_cons] at ih ⊢
  by_cases e : k = n
  ·subst e; simp
  ·simp only [if_neg e, decide_eq_false e]
   exact ih
theorem place_turnK_ne (l : List K) (n m : List UInt8) (f : T → T) (h : m ≠ n) : place (turnK l n f) m = place l m := by
 induction l with
 | nil => rfl
 | cons x l ih =>
  obtain ⟨k, t⟩ := x
  simp only [place, turnK, List.map_cons, List.find?_cons] at ih ⊢
  by_cases e : k = n
  ·subst e
   simp only [if_true, decide_eq_false (Ne.symm h)]
   exact ih
  ·simp only [if_neg e]
   by_cases e2 : k = m
   ·simp [e2]
   ·simp only [decide_eq_false e2]
    exact ih
theorem find_put : ∀ (ns : N) (t x p : T), ok t = true → put t x ns = some p → find p ns = some x
 | [], t, x, p, _, h => by simp only [put, Option.some.injEq] at h; subst h; rfl
 | n :: ns, t, x, p, ht, h => by
  simp only [put] at h
  split at h
  ·simp only [Option.map_eq_some_iff] at h
   obtain ⟨y, hy, rfl⟩ := h
   have hok : ok ((place t.kids n).getD dirT) = true := by
    cases hp : place t.kids n with
    | none => decide +kernel
    | some z => exact okL_mem (kids_ok ht) (place_some hp)
   simp only [find]
   rw [show (T.mk t.kind t.bytes (putK t.kids n y)).kids = putK t.kids n y from rfl, place_putK_eq _ _ _ (kids_pair ht)]
   exact find_put ns _ x y hok hy
  ·cases h
theorem find_dir (ms : N) (h : ms ≠ []) : find dirT ms = none := by
 cases ms with
 | nil => exact absurd rfl h
 | cons m ms => rfl
theorem find_put_else : ∀ (ns ms : N) (t x p : T), ok t = true → put t x ns = some p → ¬ ns <+: ms → ¬ ms <+: ns → find p ms = find t ms
 | [], ms, t, x, p, _, _, h, _ => absurd (List.nil_prefix) h
 | n :: ns, [], t, x, p, _, _, _, h => absurd (List.nil_prefix) h
 | n :: ns, m :: ms, t, x, p, ht, h, h1, h2 => by
  simp only [put] at h
  split at h
  ·simp only [Option.map_eq_some_iff] at h
   obtain ⟨y, hy, rfl⟩ := h
   have hok : ok ((place t.kids n).getD dirT) = true := by
    cases hp : place t.kids n with
    | none => decide +kernel
    | some z => exact okL_mem (kids_ok ht) (place_some hp)
   simp only [find]
   rw [show (T.mk t.kind t.bytes (putK t.kids n y)).kids = putK t.kids n y from rfl]
   by_cases e : m = n
   ·subst e
    rw [place_putK_eq _ _ _ (kids_pair ht)]
    have h3 : ¬ ns <+: ms := fun hh => h1 (by simpa using hh)
    have h4 : ¬ ms <+: ns := fun hh => h2 (by simpa using hh)
    have := find_put_else ns ms _ x y hok hy h3 h4
    simp only
    rw [this]
    cases hp : place t.kids m with
    | none =>
     simp only [Option.getD_none]
     exact find_dir ms (fun e => h4 (by subst e; exact List.nil_prefix))
    | some z => rfl
   ·rw [place_putK_ne _ _ _ _ e]
  ·cases h
theorem find_take : ∀ (ns ms : N) (t : T), ns ≠ [] → find (take t ns) (ns ++ ms) = none
 | [], ms, t, h => absurd rfl h
 | [n], ms, t, _ => by
  simp only [take, List.cons_append, List.nil_append, find]
  rw [show (T.mk t.kind t.bytes (takeK t.kids n)).kids = takeK t.kids n from rfl, place_takeK_eq]
 | n :: m :: ns, ms, t, _ => by
  simp only [take, List.cons_append, find]
  rw [show (T.mk t.kind t.bytes (turnK t.kids n fun y => take y (m :: ns))).kids = turnK t.kids n (fun y => take y (m :: ns)) from rfl, place_turnK_eq]
  cases place t.kids n with
  | none => rfl
  | some z => exact find_take (m :: ns) ms z (by simp)
theorem find_take_else : ∀ (ns ms : N) (t : T), ns ≠ [] → ¬ ns <+: ms → ¬ ms <+: ns → find (take t ns) ms = find t ms
 | [], ms, t, h, _, _ => absurd rfl h
 | ns, [], t, _, _, h => absurd List.nil_prefix h
 | [n], m :: ms, t, _, h1, _ => by
  have e : m ≠ n := fun e => h1 (by subst e; simp)
  simp only [take, find]
  rw [show (T.mk t.kind t.bytes (takeK t.kids n)).kids = takeK t.kids n from rfl, place_takeK_ne _ _ _ e]
 | n :: k :: ns, m :: ms, t, _, h1, h2 => by
  simp only [take, find]
  rw [show (T.mk t.kind t.bytes (turnK t.kids n fun y => take y (k :: ns))).kids = turnK t.kids n (fun y => take y (k :: ns)) from rfl]
  by_cases e : m = n
  ·subst e
   rw [place_turnK_eq]
   cases place t.kids m with
   | none => rfl
   | some z => exact find_take_else (k :: ns) ms z (by simp) (fun hh => h1 (by simpa using hh)) (fun hh => h2 (by simpa using hh))
  ·rw [place_turnK_ne _ _ _ _ e]
end Go.Tr
/-! (of general use) base.Letters: the letters of any hash. -/
namespace Go.Proofs.YtfiadgdinhmgbaaGreatDoor
open Go.RowKit Pl
def hC (h : List UInt8) : Array Value := (Lib.byteCells h).toArray
theorem hC_size (h : List UInt8) : (hC h).size = h.length := by simp [hC, Lib.byteCells]
theorem hC_at (h : List UInt8) (k : Nat) (hl : h.length = 20) (hk : k < 20) (w : World) :
  (Instr.index 163 (.agg (hC h)) (.int .i64 (k : Int))).run Tryz.prog w = .ok (.int .u8 ((h.getD k 0).toNat : Int)) w := by
 refine Agg.run_index_agg w Tryz.underlying163 (by kernel_rfl) Tryz.isAgg5 hk ?_
 simp [Lib.byteCells, List.getD, List.getElem?_eq_getElem (show k < h.length by omega)]
theorem or_disjoint (a x m : Nat) (ha : a < 2 ^ m) (hx : x < 256) (hm : m < 5) : bits .or .u32 (a : Int) ((x : Int) % 4294967296 * 2 ^ m % 4294967296) = ((a + 2 ^ m * x : Nat) : Int) := by
 have h5 : 2 ^ m ≤ 2 ^ 4 := Nat.pow_le_pow_right (by omega) (by omega)
 have hp : 2 ^ m * x ≤ 2 ^ 4 * 255 := Nat.mul_le_mul h5 (by omega)
 have e : ((x : Int) % 4294967296 * 2 ^ m % 4294967296) = ((2 ^ m * x : Nat) : Int) := by
  rw [Int.emod_eq_of_lt (a := (x : Int)) (by omega) (by omega)]
  have : (x : Int) * 2 ^ m = ((2 ^ m * x : Nat) : Int) := by push_cast; exact Int.mul_comm _ _
  rw [this, Int.emod_eq_of_lt (by omega) (by omega)]
 rw [e, u32_or_nat _ _ (by omega) (by omega), Nat.or_comm, ← Nat.two_pow_add_eq_or_of_lt ha, Nat.add_comm]
theorem or_held (h : List UInt8) (k : Nat) (hl : h.length = 20) (hk : k < 20) :
  bits .or .u32 ((heldTo h k (8 * k / 5) : Nat) : Int) (((h[k]?.getD 0).toNat : Int) % 4294967296 * 2 ^ (8 * k - 5 * (8 * k / 5)) % 4294967296) = ((heldTo h (k + 1) (8 * k / 5) : Nat) : Int) := by
 rw [or_disjoint _ _ _ (heldTo_lt h k _ (by omega) (by omega)) (UInt8.toNat_lt _) (by omega), heldTo_byte h k _ (by omega) (by omega)]
 simp [List.getElem?_eq_getElem (show k < h.length by omega)]
def lo5 (a : Nat) : Nat := a % 32
theorem lo5_lt (a : Nat) : lo5 a < 32 := Nat.mod_lt _ (by omega)
theorem and31 (a : Nat) (ha : a < 4294967296) : bits .and .u32 (a : Int) 31 = ((lo5 a : Nat) : Int) := by
 rw [show (31 : Int) = ((31 : Nat) : Int) from rfl, u32_and_nat a 31 ha (by omega), Nat.and_two_pow_sub_one_eq_mod a 5]; rfl
theorem letter_at (kd : IntKind) (n : Nat) (hn : n < 32) (w : World) :
  (Instr.index 9 (.string ⟨#[48, 49, 50, 51, 52, 53, 54, 55, 56, 57, 97, 98, 99, 100, 102, 103, 104, 105, 106, 107, 108, 109, 110, 112, 113, 114, 115, 118, 119, 120, 121, 122]⟩) (.int kd (n : Int))).run Tryz.prog w = .ok (.int .u8 ((letter n).toNat : Int)) w := by
 refine Agg.run_index_str (s := alpha) w Tryz.underlying9 ?_
 simp [letter, List.getD, List.getElem?_eq_getElem (show n < alpha.length from hn)]
theorem fresh_builder {T e : TypeId} {B : Nat} (w : World) (b : Nat) (hb : b = w.heap.size) (hB : B ≤ w.heap.size) : Lib.IsBuilderF T e B b [] (w.alloc (.cells #[.pointer none, .slice none 0 0] T)) := by
 subst hb
 refine .inl ⟨hB, .slice none 0 0, ?_, ?_, by simp [Value.ownBlock]⟩
 ·exact heap_alloc_new _ _
 ·exact World.ownsRowF_of (World.ownsRow_nil _ _ _ _)
end Go.Proofs.YtfiadgdinhmgbaaGreatDoor
/-! (of general use) Bytes and texts as elements. -/
namespace Go.Proofs.YtfiadgdinhmgbaaGreatDoor
open Go.RowKit Pl Go.Agg
theorem info_of {P : Program} {ty : TypeId} {z : Value} {n b : Nat} (hz : (P.info? ty).map (·.zero) = some (some z)) (hs : (P.info? ty).map (·.size) = some n) (hb : (P.info? ty).map (·.bytes) = some b) :
  ∃ i, P.info? ty = some i ∧ i.zero = some z ∧ i.size = n ∧ i.bytes = b := by
 cases hi : P.info? ty with
 | none => rw [hi] at hz; cases hz
 | some i =>
  rw [hi] at hz hs hb
  exact ⟨i, rfl, Option.some.inj hz, Option.some.inj hs, Option.some.inj hb⟩
theorem one_of {cs : Array Value} (h : cs.all (·.oneCell') = true) (v : Value) (hv : v ∈ cs.toList) : v.oneCell' = true := by
 rw [Array.all_eq_true_iff_forall_mem] at h
 exact h v (by simpa using hv)
def EB : Elem Tryz.prog UInt8 where
 ty := 5
 st := 23
 n := 1
 bytes := 1
 val := fun c => .int .u8 (c.toNat : Int)
 zero := .int .u8 0
 pos := by omega
 small := by omega
 size := fun x => rfl
 one := fun x v hv => by
  obtain rfl : v = .int .u8 (x.toNat : Int) := by simpa [Value.cells] using hv
  rfl
 zsize := rfl
 slice := by kernel_rfl
 info := info_of (by kernel_rfl) (by kernel_rfl) (by kernel_rfl)
 load := fun w a x hp h => LoadsL.of_cell (by have := h 0 _ rfl; rwa [show a.add 0 = a from rfl] at this) Tryz.underlying5 rfl
abbrev BytesAt (w : World) (v : Value) (l : List UInt8) : Prop := SliceOf EB w v l
theorem bytes_len {w : World} {v : Value} {l : List UInt8} (h : BytesAt w v l) (W : World) : (Builtin.len_ #[23] 3 #[v]).run Tryz.prog W = .ok (.int .i64 (l.length : Int)) W := h.len W
theorem str_len' (s : List UInt8) (w : World) : (Builtin.len_ #[9] 3 #[.string ⟨s.toArray⟩]).run Tryz.prog w = .ok (.int .i64 (s.length : Int)) w := by
 rw [run_len_string w 9 3 _ Tryz.underlying9, Agg.bytes_size]; rfl
theorem byte_at {w : World} {v : Value} {l : List UInt8} (h : BytesAt w v l) (k : Nat) (x : UInt8) (hx : l[k]? = some x) :
  ∃ p : Addr, (∀ W, (Instr.indexAt 23 v (.int .i64 (k : Int))).run Tryz.prog W = .ok (.pointer (some p)) W) ∧ LoadsL Tryz.prog w 5 (some p) (.int .u8 (x.toNat : Int)) := by
 obtain ⟨p, h1, _, _, h4⟩ := h.at_ k x hx
 exact ⟨p, h1, h4⟩
end Go.Proofs.YtfiadgdinhmgbaaGreatDoor
/-! RoomsOf of slices that may be written: stores, appends into one of them, make; over any program. -/
namespace Go.Agg
open Go.RowKit
abbrev SV : Type := { v : Value // ∃ p n c, v = .slice p n c }
instance : Inhabited SV := ⟨⟨.slice none 0 0, _, _, _, rfl⟩⟩
theorem sv_cells (v : SV) : v.1.cells = #[v.1] := by obtain ⟨_, p, n, c, rfl⟩ := v; rfl
theorem sv_one (v : SV) : v.1.oneCell' = true := by obtain ⟨_, p, n, c, rfl⟩ := v; rfl
def SS (vs : List SV) : Nat → Prop := fun b => ∃ (k : Nat) (v : SV), vs[k]? = some v ∧ v.1.ownBlock = some b
def Dist (vs : List SV) : Prop := ∀ (i j : Nat) (u v : SV), vs[i]? = some u → vs[j]? = some v → i ≠ j → ∀ b, u.1.ownBlock = some b → v.1.ownBlock ≠ some b
section
variable {P : Program} {α : Type} {E : Elem P α}
def RoomsOf (E : Elem P α) (w : World) (vs : List SV) (f : Nat → List α) : Prop := ∀ k v, vs[k]? = some v → RoomN E w v.1 (f k)
variable {w w' : World} {v : Value} {l : List α} {vs : List SV} {f : Nat → List α}
theorem RoomsOf.below (h : RoomsOf E w vs f) (hb : Below w.heap.size w w') : RoomsOf E w' vs f := fun k v hk => (h k v hk).below hb
theorem RoomsOf.lt (h : RoomsOf E w vs f) : ∀ b, SS vs b → b < w.heap.size := by
 rintro b ⟨k, v, hk, hb⟩
 exact (h k v hk).lt b hb
theorem RoomsOf.set (h : RoomsOf E w vs f) (hd : Dist vs) {k : Nat} {v : SV} (hv : vs[k]? = some v) {l : List α} (hl : RoomN E w' v.1 l) (ho : Only (fun b => v.1.ownBlock = some b) w w') :
  RoomsOf E w' vs (fun j => if j = k then l else f j) := by
 intro j u hu
 by_cases hj : j = k
 ·subst hj
  obtain rfl := Option.some.inj (hu.symm.trans hv)
  simpa using hl
 ·simp only [hj, if_false]
  exact (h j u hu).only ho (fun b hb hb' => hd j k u v hu hv hj b hb hb')
theorem RoomsOf.only {S : Nat → Prop} (h : RoomsOf E w vs f) (ho : Only S w w') (hS : ∀ b, SS vs b → ¬ S b) : RoomsOf E w' vs f := fun k v hk => (h k v hk).only ho (fun b hb => hS b ⟨k, v, hk, hb⟩)
theorem Only.ss {k : Nat} {v : SV} (hv : vs[k]? = some v) (ho : Only (fun b => v.1.ownBlock = some b) w w') : Only (SS vs) w w' := ho.mono fun _ _ hb => ⟨k, v, hv, hb⟩
theorem RoomN.store (h : RoomN E w v l) (k : Nat) (a : α) (hk : k < l.length) :
  ∃ p w', (∀ W, (Instr.indexAt E.st v (.int .i64 (k : Int))).run P W = .ok (.pointer (some p)) W) ∧ (Instr.storeAt E.ty (.pointer (some p)) (E.val a)).run P w = .ok () w' ∧ RoomN E w' v (l.set k a) ∧ Only (fun b => v.ownBlock = some b) w w' := by
 rcases h with ⟨rfl, rfl⟩ | h
 ·simp at hk
 ·obtain ⟨p, w', h1, h2, h3, h4⟩ := run_storeAt_room h k a hk
  exact ⟨p, w', h1, h2, .inr h3, h4⟩
theorem RoomsOf.store (h : RoomsOf E w vs f) (hd : Dist vs) {k : Nat} {v : SV} (hv : vs[k]? = some v) (i : Nat) (a : α) (hi : i < (f k).length) :
  ∃ p w', (∀ W, (Instr.indexAt E.st v.1 (.int .i64 (i : Int))).run P W = .ok (.pointer (some p)) W) ∧ (Instr.storeAt E.ty (.pointer (some p)) (E.val a)).run P w = .ok () w' ∧ RoomsOf E w' vs (fun j => if j = k then (f k).set i a else f j) ∧ Only (SS vs) w w' := by
 obtain ⟨p, w', h1, h2, h3, h4⟩ := (h k v hv).store i a hi
 exact ⟨p, w', h1, h2, h.set hd hv h3 h4, h4.ss hv⟩
theorem RoomN.place (h : RoomN E w v l) (k : Nat) (hk : k < l.length) :
  ∃ p, (∀ W, (Instr.indexAt E.st v (.int .i64 (k : Int))).run P W = .ok (.pointer (some p)) W) ∧ ∀ (w : World) (l : List α) (a : α), RoomN E w v l → k < l.length → ∃ w', (Instr.storeAt E.ty (.pointer (some p)) (E.val a)).run P w = .ok () w' ∧ RoomN E w' v (l.set k a) ∧ Only (fun b => v.ownBlock = some b) w w' := by
 have a0 := l[k]'hk
 obtain ⟨p, _, h1, _⟩ := h.store k a0 hk
 refine ⟨p, h1, fun w2 l2 a h2 hk2 => ?_⟩
 obtain ⟨p2, w', h3, h4, h5, h6⟩ := h2.store k a hk2
 have e := (h1 w2).symm.trans (h3 w2)
 injection e with e
 injection e with e
 injection e with e
 subst e
 exact ⟨w', h4, h5, h6⟩
theorem RoomsOf.place (h : RoomsOf E w vs f) (hd : Dist vs) {k : Nat} {v : SV} (hv : vs[k]? = some v) (i : Nat) (hi : i < (f k).length) :
  ∃ p, (∀ W, (Instr.indexAt E.st v.1 (.int .i64 (i : Int))).run P W = .ok (.pointer (some p)) W) ∧ ∀ (w : World) (f : Nat → List α) (a : α), RoomsOf E w vs f → i < (f k).length →
   ∃ w', (Instr.storeAt E.ty (.pointer (some p)) (E.val a)).run P w = .ok () w' ∧ RoomsOf E w' vs (fun j => if j = k then (f k).set i a else f j) ∧ Only (SS vs) w w' := by
 obtain ⟨p, h1, h2⟩ := (h k v hv).place i hi
 refine ⟨p, h1, fun w2 f2 a h3 hi2 => ?_⟩
 obtain ⟨w', h4, h5, h6⟩ := h2 w2 (f2 k) a (h3 k v hv) hi2
 exact ⟨w', h4, h3.set hd hv h5 h6, h6.ss hv⟩
theorem RoomN.form (h : RoomN E w v l) : ∃ p n c, v = .slice p n c := by
 obtain ⟨p, c, e⟩ := h.slice.form
 exact ⟨p, _, c, e⟩
theorem Got.lenk {gs : List SV} {k : Nat} (h : gs.length = vs.length) (hk : k < vs.length) : ∃ g, gs[k]? = some g := ⟨_, List.getElem?_eq_getElem (by omega)⟩
def PreOf (v g : Value) : Prop := ∀ b, v.ownBlock = some b → g.ownBlock = some b → ∃ o n cap m, v = .slice (some ⟨b, o, none⟩) n cap ∧ g = .slice (some ⟨b, o, none⟩) (n + m) cap
structure Growing (E : Elem P α) (ws wr : World) (v : Value) (l0 : List α) (g : Value) (l : List α) : Prop where
 only : Only (fun b => v.ownBlock = some b) ws wr
 room : RoomN E wr g l
 old : RoomN E wr v l0
 pre : PreOf v g
 own : ∀ b, g.ownBlock = some b → v.ownBlock = some b ∨ ws.heap.size ≤ b
 starts : l0 <+: l
theorem Growing.start {ws : World} {l0 : List α} (h : RoomN E ws v l0) : Growing E ws ws v l0 v l0 where
 only := Only.refl _ _
 room := h
 old := h
 pre := fun b hb _ => by
  rcases h with ⟨rfl, _⟩ | ⟨c, o, cap, rfl, _⟩
  ·simp [Value.ownBlock] at hb
  ·obtain rfl : c = b := by simpa [Value.ownBlock] using hb
   exact ⟨o, _, cap, 0, rfl, rfl⟩
 own := fun b hb => .inl hb
 starts := List.prefix_rfl
theorem Growing.below {ws wr w' : World} {l0 l : List α} {g : Value} (h : Growing E ws wr v l0 g l) (hb : Below wr.heap.size wr w') : Growing E ws w' v l0 g l where
 only := h.only.trans (Only.of_below (S := fun _ => False) hb) (fun _ _ h => h.elim)
 room := h.room.below hb
 old := h.old.below hb
 pre := h.pre
 own := h.own
 starts := h.starts
theorem Growing.append {ws wr : World} {l0 l : List α} {g : Value} (h : Growing E ws wr v l0 g l) (x : Value) (m : List α) (hx : SliceOf E wr x m) (h63 : l.length + m.length ≤ 1099511627776 / 8) (hby : E.bytes ≤ 1000) (hv : ∀ b, v.ownBlock = some b → b < ws.heap.size) (ty : TypeId) :
  ∃ g' w', (Builtin.append_ #[E.st, E.st] ty #[g, x]).run P wr = .ok g' w' ∧ Growing E ws w' v l0 g' (l ++ m) := by
 obtain ⟨g', w', hr, h1, h2, h3, h4, h5⟩ := run_append_room h.room x m hx h63 hby ty
 have hown : ∀ b, g'.ownBlock = some b → v.ownBlock = some b ∨ ws.heap.size ≤ b := fun b hb => by
  rcases h4 b hb with h6 | h6
  ·exact h.own b h6
  ·exact .inr (Nat.le_trans h.only.size h6)
 have hpre : PreOf v g' := fun b hb hb' => by
  have hlt := hv b hb
  rcases h4 b hb' with h6 | h6
  ·obtain ⟨o, n, cap, k, e1, e2⟩ := h.pre b hb h6
   exact ⟨o, n, cap, k + m.length, e1, by rw [h5 b o _ cap e2 hb', Nat.add_assoc]⟩
  ·have := h.only.size; omega
 refine ⟨g', w', hr, ⟨h.only.trans h3 (fun i hi hg => (h.own i hg).resolve_right (by omega)), h1, ?_, hpre, hown, h.starts.trans (List.prefix_append _ _)⟩⟩
 by_cases hsame : ∃ b, v.ownBlock = some b ∧ g.ownBlock = some b
 ·obtain ⟨b, hb, hg⟩ := hsame
  obtain ⟨o, n, cap, k, e1, e2⟩ := h.pre b hb hg
  rcases h.old with ⟨rfl, _⟩ | ⟨b1, o1, cap1, e3, hl1, _⟩
  ·simp [Value.ownBlock] at hb
  rcases h2 with ⟨rfl, _⟩ | ⟨b2, o2, cap2, e4, hl2, hlt2, hs2, hf2, hc2⟩
  ·simp [Value.ownBlock] at hg
  subst e1 e2
  injection e3 with e3 e5 e6
  injection e3 with e3
  injection e3 with e3 e7
  injection e4 with e4 e8 e9
  injection e4 with e4
  injection e4 with e4 e10
  subst e3 e4 e5 e6 e7 e9 e10
  refine .inr ⟨b, o, cap, rfl, hl1, hlt2, hs2, hf2, fun j u hj => hc2 j u ?_⟩
  obtain ⟨t, rfl⟩ := h.starts
  rw [E.flat_append, List.getElem?_append_left (List.getElem?_eq_some_iff.1 hj).1]
  exact hj
 ·exact h.old.only h3 (fun b hb hg => hsame ⟨b, hb, hg⟩)
structure Got (E : Elem P α) (w : World) (B : Nat) (vs gs : List SV) (k : Nat) (f : Nat → List α) : Prop where
 len : gs.length = vs.length
 at_ : ∀ j g v, j < k → gs[j]? = some g → vs[j]? = some v → SliceOf E w g.1 (f j)
 own : ∀ j g v, j < k → gs[j]? = some g → vs[j]? = some v → ∀ b, g.1.ownBlock = some b → v.1.ownBlock = some b ∨ B ≤ b
theorem Got.zero {B : Nat} {gs : List SV} (h : gs.length = vs.length) : Got E w B vs gs 0 f := ⟨h, fun _ _ _ h => absurd h (Nat.not_lt_zero _), fun _ _ _ h => absurd h (Nat.not_lt_zero _)⟩
theorem Got.below {B : Nat} {gs : List SV} {k : Nat} (h : Got E w B vs gs k f) (hb : Below w.heap.size w w') : Got E w' B vs gs k f := ⟨h.len, fun j g v hj hg hv => (h.at_ j g v hj hg hv).below hb, h.own⟩
theorem SliceOf.onlyS {S : Nat → Prop} {v : Value} {l : List α} (h : SliceOf E w v l) (ho : Only S w w') (hS : ∀ b, v.ownBlock = some b → ¬ S b) : SliceOf E w' v l := by
 rcases h with h | ⟨p, cap, rfl, hp, h⟩
 ·exact .inl h
 ·exact .inr ⟨p, cap, rfl, Nat.lt_of_lt_of_le hp ho.size, fun j u hj => (ho.cell (p := p.add j) (by rw [add_block]; exact hp) (by rw [add_block]; exact hS _ rfl)).trans (h j u hj)⟩
theorem Got.stage {B : Nat} {gs : List SV} {k : Nat} {v : SV} (h : Got E w B vs gs k f) (hd : Dist vs) (hv : vs[k]? = some v) (hB : ∀ b, v.1.ownBlock = some b → b < B) (ho : Only (fun b => v.1.ownBlock = some b) w w') : Got E w' B vs gs k f := by
 refine ⟨h.len, fun j g u hj hg hu => (h.at_ j g u hj hg hu).onlyS ho fun b hb hb' => ?_, h.own⟩
 rcases h.own j g u hj hg hu b hb with h1 | h1
 ·exact hd j k u v hu hv (by omega) b h1 hb'
 ·have := hB b hb'; omega
theorem Got.other {S : Nat → Prop} {B : Nat} {gs : List SV} {k : Nat} (h : Got E w B vs gs k f) (hS : ∀ b, S b → b < B ∧ ¬ SS vs b) (ho : Only S w w') : Got E w' B vs gs k f := by
 refine ⟨h.len, fun j g u hj hg hu => (h.at_ j g u hj hg hu).onlyS ho fun b hb hb' => ?_, h.own⟩
 rcases h.own j g u hj hg hu b hb with h1 | h1
 ·exact (hS b hb').2 ⟨j, u, hu, h1⟩
 ·have := (hS b hb').1; omega
theorem Got.next {B : Nat} {gs : List SV} {k : Nat} {g v : SV} (h : Got E w B vs gs k f) (hv : vs[k]? = some v) (hg : SliceOf E w g.1 (f k)) (hown : ∀ b, g.1.ownBlock = some b → v.1.ownBlock = some b ∨ B ≤ b) : Got E w B vs (gs.set k g) (k + 1) f := by
 have hk : k < gs.length := by rw [h.len]; exact (List.getElem?_eq_some_iff.1 hv).1
 refine ⟨by simpa using h.len, fun j g' u hj hg' hu => ?_, fun j g' u hj hg' hu => ?_⟩
 ·by_cases hjk : j = k
  ·subst hjk
   rw [List.getElem?_set_self hk] at hg'
   obtain rfl := Option.some.inj hg'
   exact hg
  ·rw [List.getElem?_set_ne (Ne.symm hjk)] at hg'
   exact h.at_ j g' u (by omega) hg' hu
 ·by_cases hjk : j = k
  ·subst hjk
   rw [List.getElem?_set_self hk] at hg'
   obtain rfl := Option.some.inj hg'
   obtain rfl := Option.some.inj (hu.symm.trans hv)
   exact hown
  ·rw [List.getElem?_set_ne (Ne.symm hjk)] at hg'
   exact h.own j g' u (by omega) hg' hu
section
variable {ops : Array Oper} {rest : List Oper} {o o2 : Oper} {a : Act} {Q : Exit → Act → World → Prop}
theorem wpList_makeN (E : Elem P α) (e0 : α) (he0 : E.val e0 = E.zero) (hg : o.guard = none) (x y : Operand) (kl kc : IntKind) (n : Nat) (ho : o.op = .makeSlice E.st x y) (hx : a.eval x = .int kl (n : Int)) (hy : a.eval y = .int kc (n : Int)) (hn : n ≤ 1099511627776 / 8) (hby : E.bytes ≤ 1000)
  (h : ∀ w', RoomN E w' (.slice (some ⟨w.heap.size, 0, none⟩) n n) (List.replicate n e0) → Below w.heap.size w w' → w'.heap.size = w.heap.size + 1 → wpList P ops Q rest (a.put o.dst (.slice (some ⟨w.heap.size, 0, none⟩) n n)) w') : wpList P ops Q (o :: rest) a w := by
 obtain ⟨i, hi, hz, hs, hb⟩ := E.info
 have hmul : i.bytes * n ≤ 281474976710656 := by
  rw [hb]
  exact Nat.le_trans (Nat.mul_le_mul hby hn) (by omega)
 have hmi : (i.bytes : Int) * (n : Int) ≤ 281474976710656 := by
  have h5 : ((i.bytes * n : Nat) : Int) ≤ 281474976710656 := by omega
  rwa [Int.natCast_mul] at h5
 have hr := run_make (P := P) w E.st E.ty i E.zero E.slice hi hz kl kc (n : Int) (n : Int) (by omega) (by omega) hmi (by omega)
 simp only [Int.toNat_natCast] at hr
 have hblk : Blk (w.alloc (.cells (madeCells E.zero.cells (n * i.size)) E.ty)) w.heap.size E.ty (madeCells E.zero.cells (n * i.size)) := Blk.new w E.ty _
 refine wpList_val hg (v := .slice (some ⟨w.heap.size, 0, none⟩) n n) (w' := w.alloc (.cells (madeCells E.zero.cells (n * i.size)) E.ty)) ?_ (h _ ?_ ((Below.refl _ _).alloc (Nat.le_refl _) _) (Array.size_push _))
 ·simp [execOp, ho, hx, hy, hr]
 ·rw [hs] at hblk ⊢
  refine .inr ⟨w.heap.size, 0, n, by simp, by simp, hblk.lt, fun j hj => ?_, fun j _ => frozen_of_row _ _ _ _ _ hblk, fun j u hj => ?_⟩
  ·rw [hblk.cell, Array.getElem?_eq_getElem (by rw [size_madeCells]; omega)]; rfl
  ·obtain ⟨k, c, q, h3, h4, rfl⟩ := E.flat_all _ j u hj
   have hkn : k < n := by simpa using (List.getElem?_eq_some_iff.1 h3).1
   obtain rfl : e0 = c := by rw [List.getElem?_replicate, if_pos hkn] at h3; exact Option.some.inj h3
   have hq : q < E.n := by have := (Array.getElem?_eq_some_iff.1 h4).1; rw [E.size] at this; exact this
   have hlt : k * E.n + q < n * E.n := by
    have : k * E.n + E.n ≤ n * E.n := by rw [← Nat.succ_mul]; exact Nat.mul_le_mul_right _ hkn
    omega
   rw [hblk.cell, Nat.zero_add]
   unfold madeCells
   rw [he0] at h4
   rw [Array.getElem?_map, Array.getElem?_range, if_pos hlt]
   simp only [Option.map_some]
   rw [E.zsize, Nat.add_comm, Nat.add_mul_mod_self_right, Nat.mod_eq_of_lt hq, getElem!_def, h4]
theorem wpList_grow {ws : World} {l0 l : List α} {v g : Value} (hg : o.guard = none) (hg2 : o2.guard = none) (d : Tmp) (hd : o.dst = some d) (y : Operand) (ho : o.op = .buildSlice E.st 1 #[(0, y)]) (s : Operand)
  (ho2 : o2.op = .call { callee := .builtin .append, args := #[s, .tmp d], argTypes := #[E.st, E.st] }) (x : α) (hy : a.eval y = E.val x) (hs : ∀ p, (a.put o.dst p).eval s = g) (hsz : d < a.tmps.size)
  (hgr : Growing E ws w v l0 g l) (h63 : l.length + 1 ≤ 1099511627776 / 8) (hby : E.bytes ≤ 1000) (hv : ∀ b, v.ownBlock = some b → b < ws.heap.size)
  (h : ∀ u g' w', Growing E ws w' v l0 g' (l ++ [x]) → wpList P ops Q rest ((a.put o.dst u).put o2.dst g') w') : wpList P ops Q (o :: o2 :: rest) a w := by
 refine wpList_val hg (v := .slice (some ⟨w.heap.size, 0, none⟩) 1 1) (w' := w.alloc (.cells (E.val x).cells E.ty)) (by simp [execOp, ho, hy, run_slice_one]) ?_
 have hb1 : Below w.heap.size w (w.alloc (.cells (E.val x).cells E.ty)) := (Below.refl _ _).alloc (Nat.le_refl _) _
 obtain ⟨g', w', hrun, h2⟩ := (hgr.below hb1).append _ [x] (slice_of_block (Blk.new w E.ty (E.val x).cells)) (by simpa using h63) hby hv o2.type
 refine wpList_val hg2 (v := g') (w' := w') ?_ (h _ g' w' h2)
 have e2 : (a.put o.dst (.slice (some ⟨w.heap.size, 0, none⟩) 1 1)).eval (.tmp d) = .slice (some ⟨w.heap.size, 0, none⟩) 1 1 := by rw [hd]; simp [Act.put, Act.eval, hsz]
 simp [execOp, ho2, resolve, invoke, builtin, hs, e2, hrun]
theorem wpList_growS {ws : World} {l0 l m : List α} {v g vx : Value} (hg : o.guard = none) (s x : Operand) (ho : o.op = .call { callee := .builtin .append, args := #[s, x], argTypes := #[E.st, E.st] }) (hs : a.eval s = g) (hx : a.eval x = vx)
  (hgr : Growing E ws w v l0 g l) (hm : SliceOf E w vx m) (h63 : l.length + m.length ≤ 1099511627776 / 8) (hby : E.bytes ≤ 1000) (hv : ∀ b, v.ownBlock = some b → b < ws.heap.size)
  (h : ∀ g' w', Growing E ws w' v l0 g' (l ++ m) → wpList P ops Q rest (a.put o.dst g') w') : wpList P ops Q (o :: rest) a w := by
 obtain ⟨g', w', hrun, h2⟩ := hgr.append vx m hm h63 hby hv o.type
 refine wpList_val hg (v := g') (w' := w') ?_ (h g' w' h2)
 simp [execOp, ho, resolve, invoke, builtin, hs, hx, hrun]
end
end
end Go.Agg
/-! A file tree in memory: nodes as values, kids as elements, what lies at a kid; a tree stays where only new blocks come. -/
namespace Go.Proofs.YtfiadgdinhmgbaaGreatDoor
open Go.RowKit Pl Go.Agg Go.Tr
abbrev NdV : Type := Int × SV × SV
abbrev KdV : Type := List UInt8 × NdV
def svN : SV := ⟨.slice none 0 0, none, 0, 0, rfl⟩
def ndC (x : NdV) : Array Value := #[.int .i64 x.1, x.2.1.1, x.2.2.1]
def kdC (y : KdV) : Array Value := #[.string ⟨y.1.toArray⟩, .int .i64 y.2.1, y.2.2.1.1, y.2.2.2.1]
def ndZ : NdV := (0, svN, svN)
def kdZ : KdV := ([], ndZ)
theorem sv_oneT (s : SV) : s.1.oneCell' = true := by obtain ⟨_, p, n, c, rfl⟩ := s; rfl
theorem ndC_size (x : NdV) : (ndC x).size = 3 := rfl
theorem kdC_size (y : KdV) : (kdC y).size = 4 := rfl
theorem ndC_one (x : NdV) : (ndC x).all (·.oneCell') = true := by
 simp [ndC, sv_oneT]; rfl
theorem kdC_one (y : KdV) : (kdC y).all (·.oneCell') = true := by
 simp [kdC, sv_oneT]; exact ⟨rfl, rfl⟩
theorem nd_zero : (Tryz.prog.info? 26).map (·.zero) = some (some (.agg (ndC ndZ))) := by kernel_rfl
theorem nd_info (x : NdV) : (Tryz.prog.info? 26).map (·.size) = some (ndC x).size := by rw [ndC_size]; kernel_rfl
theorem nd_under : Tryz.prog.underlying 26 = some (.struct (Tryz.prog.fieldsOf 26)) := by kernel_rfl
theorem kd_zero : (Tryz.prog.info? 28).map (·.zero) = some (some (.agg (kdC kdZ))) := by kernel_rfl
theorem kd_info (y : KdV) : (Tryz.prog.info? 28).map (·.size) = some (kdC y).size := by rw [kdC_size]; kernel_rfl
theorem kd_under : Tryz.prog.underlying 28 = some (.struct (Tryz.prog.fieldsOf 28)) := by kernel_rfl
theorem kds_under : Tryz.prog.underlying 24 = some (.slice 28) := by kernel_rfl
theorem bs_under : Tryz.prog.underlying 23 = some (.slice 5) := by kernel_rfl
def EK : Elem Tryz.prog KdV where
 ty := 28
 st := 24
 n := 4
 bytes := 72
 val := fun x => .agg (kdC x)
 zero := .agg (kdC kdZ)
 pos := by omega
 small := by omega
 size := fun x => by simp [Value.cells, kdC_size]
 one := fun x v hv => one_of (kdC_one x) v hv
 zsize := by simp [Value.cells, kdC_size]
 slice := by kernel_rfl
 info := info_of kd_zero (by kernel_rfl) (by kernel_rfl)
 load := fun w a x hp h => LoadsL.of_cells hp h kd_under rfl (kd_info x)
theorem kds_len {w : World} {v : Value} {l : List KdV} (h : SliceOf EK w v l) (W : World) : (Builtin.len_ #[24] 3 #[v]).run Tryz.prog W = .ok (.int .i64 (l.length : Int)) W := h.len W
mutual
def NodeV (w : World) : NdV → T → Prop
 | x, .mk k b l => x.1 = k ∧ BytesAt w x.2.1.1 b ∧ ∃ ks : List KdV, SliceOf EK w x.2.2.1 ks ∧ KidsV w ks l
def KidsV (w : World) : List KdV → List (List UInt8 × T) → Prop
 | [], [] => True
 | y :: ks, (n, t) :: l => y.1 = n ∧ NodeV w y.2 t ∧ KidsV w ks l
 | _, _ => False
end
mutual
theorem NodeV.below {w w' : World} (hb : Below w.heap.size w w') : ∀ (t : T) (x : NdV), NodeV w x t → NodeV w' x t
 | .mk k b l, x, h => by
  obtain ⟨h1, h2, ks, h3, h4⟩ := h
  exact ⟨h1, SliceOf.below h2 hb, ks, SliceOf.below h3 hb, KidsV.below hb l ks h4⟩
theorem KidsV.below {w w' : World} (hb : Below w.heap.size w w') : ∀ (l : List (List UInt8 × T)) (ks : List KdV), KidsV w ks l → KidsV w' ks l
 | [], [], _ => trivial
 | (_, t) :: l, y :: ks, h => ⟨h.1, NodeV.below hb t y.2 h.2.1, KidsV.below hb l ks h.2.2⟩
 | [], _ :: _, h => h
 | (_, _) :: _, [], h => h
end
theorem KidsV.len {w : World} : ∀ {ks : List KdV} {l : List (List UInt8 × T)}, KidsV w ks l → ks.length = l.length
 | [], [], _ => rfl
 | y :: ks, (n, t) :: l, h => by simp [KidsV.len h.2.2]
 | [], (_, _) :: _, h => h.elim
 | _ :: _, [], h => h.elim
theorem KidsV.at_ {w : World} : ∀ {ks : List KdV} {l : List (List UInt8 × T)} (k : Nat) (x : List UInt8 × T), KidsV w ks l → l[k]? = some x → ∃ y, ks[k]? = some y ∧ y.1 = x.1 ∧ NodeV w y.2 x.2
 | [], [], k, x, _, h => by simp at h
 | y :: ks, (n, t) :: l, 0, x, h, hx => by
  simp only [List.getElem?_cons_zero, Option.some.injEq] at hx
  subst hx
  exact ⟨y, rfl, h.1, h.2.1⟩
 | y :: ks, (n, t) :: l, k + 1, x, h, hx => by
  simp only [List.getElem?_cons_succ] at hx ⊢
  exact KidsV.at_ k x h.2.2 hx
 | [], (_, _) :: _, _, _, h, _ => h.elim
 | _ :: _, [], _, _, h, _ => h.elim
theorem KidsV.append {w : World} : ∀ {ks ms : List KdV} {l m : List (List UInt8 × T)}, KidsV w ks l → KidsV w ms m → KidsV w (ks ++ ms) (l ++ m)
 | [], _, [], _, _, h => h
 | _ :: _, _, (_, _) :: _, _, h, h2 => ⟨h.1, h.2.1, KidsV.append h.2.2 h2⟩
 | [], _, (_, _) :: _, _, h, _ => h.elim
 | _ :: _, _, [], _, h, _ => h.elim
def NodeAt (w : World) (v : Value) (t : T) : Prop := ∃ x : NdV, v = .agg (ndC x) ∧ NodeV w x t
theorem NodeAt.below {w w' : World} {v : Value} {t : T} (h : NodeAt w v t) (hb : Below w.heap.size w w') : NodeAt w' v t := by
 obtain ⟨x, e, h⟩ := h
 exact ⟨x, e, h.below hb⟩
structure NdL (w : World) (p : Addr) (x : NdV) : Prop where
 all : LoadsL Tryz.prog w 26 (some p) (.agg (ndC x))
 kind : LoadsL Tryz.prog w 22 (some p) (.int .i64 x.1)
 bytes : LoadsL Tryz.prog w 23 (some (p.add 1)) x.2.1.1
 kids : LoadsL Tryz.prog w 24 (some (p.add 2)) x.2.2.1
theorem NdL.below {w w' : World} {p : Addr} {x : NdV} (h : NdL w p x) (hb : Below w.heap.size w w') : NdL w' p x := ⟨h.all.below hb, h.kind.below hb, h.bytes.below hb, h.kids.below hb⟩
theorem NdL.of_cells {w : World} {p : Addr} {x : NdV} (hp : p.block < w.heap.size) (h : ∀ j u, (ndC x)[j]? = some u → w.cell? (p.add j) = some u) : NdL w p x where
 all := LoadsL.of_cells hp h nd_under rfl (nd_info x)
 kind := LoadsL.of_cell (by have := h 0 _ rfl; rwa [show p.add 0 = p from by cases p; rfl] at this) Tryz.underlying22 rfl
 bytes := LoadsL.of_cell (h 1 _ rfl) bs_under rfl
 kids := LoadsL.of_cell (h 2 _ rfl) kds_under rfl
theorem NdL.of_blk {w : World} {g : Nat} {x : NdV} (h : Blk w g 26 (ndC x)) : NdL w ⟨g, 0, none⟩ x :=
 NdL.of_cells h.lt (fun j u hj => by rw [add_plain, Nat.zero_add, h.cell]; exact hj)
structure KdL (w : World) (p : Addr) (y : KdV) : Prop where
 all : LoadsL Tryz.prog w 28 (some p) (.agg (kdC y))
 name : LoadsL Tryz.prog w 9 (some p) (.string ⟨y.1.toArray⟩)
 node : NdL w (p.add 1) y.2
theorem KdL.below {w w' : World} {p : Addr} {y : KdV} (h : KdL w p y) (hb : Below w.heap.size w w') : KdL w' p y := ⟨h.all.below hb, h.name.below hb, h.node.below hb⟩
theorem KdL.of_cells {w : World} {p : Addr} {y : KdV} (hp : p.block < w.heap.size) (h : ∀ j u, (kdC y)[j]? = some u → w.cell? (p.add j) = some u) : KdL w p y where
 all := LoadsL.of_cells hp h kd_under rfl (kd_info y)
 name := LoadsL.of_cell (by have := h 0 _ rfl; rwa [show p.add 0 = p from by cases p; rfl] at this) Tryz.underlying9 rfl
 node := NdL.of_cells (by rw [add_block]; exact hp) (fun j u hj => by
  rw [add_add]
  refine h _ _ ?_
  match j, hj with
  | 0, hj => exact hj
  | 1, hj => exact hj
  | 2, hj => exact hj
  | j + 3, hj => simp [ndC] at hj)
theorem kid_at {w : World} {v : Value} {l : List KdV} (h : SliceOf EK w v l) (k : Nat) (y : KdV) (hy : l[k]? = some y) :
  ∃ p : Addr, (∀ W, (Instr.indexAt 24 v (.int .i64 (k : Int))).run Tryz.prog W = .ok (.pointer (some p)) W) ∧ KdL w p y := by
 obtain ⟨p, h1, h2, h3, h4⟩ := h.at_ k y hy
 exact ⟨p, h1, KdL.of_cells h2 h3⟩
end Go.Proofs.YtfiadgdinhmgbaaGreatDoor
/-! Small facts about numbers. -/
namespace Go.Proofs.YtfiadgdinhmgbaaGreatDoor
open Go.RowKit Pl
theorem ret_num {k : IntKind} {a b : Int} (h : a = b) : Ending.returned (.int k a) = .returned (.int k b) := by rw [h]
def wi (c lo hi : Int) : Bool := decide (lo ≤ c) && decide (c ≤ hi)
theorem u8_lt (c : UInt8) : (c.toNat : Int) < 256 := by have := c.toNat_lt; omega
end Go.Proofs.YtfiadgdinhmgbaaGreatDoor
/-! base.sign: whether a rune may stand in a name. -/
namespace Go.Proofs.YtfiadgdinhmgbaaGreatDoor
open Go.RowKit Pl
theorem ret_bool {a b : Bool} (h : a = b) : Ending.returned (.bool a) = .returned (.bool b) := by rw [h]
def smallN (r : Nat) : Nat := r ||| 32
theorem small_eq (r : Nat) (h : r < 128) : bits .or .i32 (r : Int) 32 = ((smallN r : Nat) : Int) := by
 unfold smallN
 have : ∀ r : Nat, r < 128 → bits .or .i32 (r : Int) 32 = ((r ||| 32 : Nat) : Int) := by decide +kernel
 exact this r h
theorem index_eq (r : Nat) (h : r < 128) : Lib.indexByte [46, 95, 43, 45] (r : Int).toNat.toUInt8 = (if r = 46 then 0 else if r = 95 then 1 else if r = 43 then 2 else if r = 45 then 3 else -1 : Int) := by
 have : ∀ r : Nat, r < 128 → Lib.indexByte [46, 95, 43, 45] (r : Int).toNat.toUInt8 = (if r = 46 then 0 else if r = 95 then 1 else if r = 43 then 2 else if r = 45 then 3 else -1 : Int) := by decide +kernel
 exact this r h
def placeN (r : Nat) : Int := if r = 46 then 0 else if r = 95 then 1 else if r = 43 then 2 else if r = 45 then 3 else -1
theorem index_any (r : Int) (h0 : 0 ≤ r) (h : r < 128) (w : World) : Calls Tryz.prog 138 #[.string ⟨#[46, 95, 43, 45]⟩, .int .u8 r] w fun e w' => e = .returned (.int .i64 (placeN r.toNat)) ∧ w = w' := by
 obtain ⟨n, rfl⟩ := Int.eq_ofNat_of_zero_le h0
 refine (Tryz.strings_IndexByte _ _ _).mono ?_
 rintro e w' ⟨rfl, rfl⟩
 refine ⟨ret_num ?_, rfl⟩
 exact index_eq n (by omega)
theorem signN_eq (r : Nat) : signN r = ((decide (65 ≤ r) && decide (97 ≤ smallN r) && decide (smallN r ≤ 122)) || (decide (48 ≤ r) && decide (r ≤ 57)) || decide (0 ≤ placeN r)) := rfl
set_option maxRecDepth 100000 in
set_option maxHeartbeats 1000000 in
theorem sign_low (r : Nat) (h : r < 128) (w : World) :
  Calls Tryz.prog 126 #[.int .i32 (r : Int)] w fun e w' => e = .returned (.bool (signN r)) ∧ w = w' := by
 have hs := small_eq r h
 have h' : (r : Int) < 128 := by omega
 go_enter Tryz.func126, Tryz.ntmps126
 go_wp2_with (go_at_call 138; refine (index_any _ (by omega) (by omega) _).mono ?_; rintro e w' ⟨rfl, rfl⟩)
 all_goals go_ret
 all_goals refine ⟨?_, rfl⟩
 all_goals exact ret_bool (by rw [signN_eq, Bool.eq_iff_iff]; simp only [Bool.or_eq_true, Bool.and_eq_true, decide_eq_true_eq, true_iff]; omega)
set_option maxRecDepth 100000 in
theorem sign_high (r : Int) (h : 128 ≤ r) (w : World) :
  Calls Tryz.prog 126 #[.int .i32 r] w fun e w' => e = .returned (.bool false) ∧ w = w' := by
 have hd : decide (r < 128) = false := by simp; omega
 go_enter Tryz.func126, Tryz.ntmps126
 go_wp2_with fail
 go_ret
 exact ⟨rfl, rfl⟩
def signR (r : Int) : Bool := if r < 128 then signN r.toNat else false
theorem sign_any (r : Int) (h : 0 ≤ r) (w : World) :
  Calls Tryz.prog 126 #[.int .i32 r] w fun e w' => e = .returned (.bool (signR r)) ∧ w = w' := by
 unfold signR
 by_cases h3 : r < 128
 ·rw [if_pos h3]
  obtain ⟨n, rfl⟩ := Int.eq_ofNat_of_zero_le h
  exact sign_low n (by omega) w
 ·rw [if_neg h3]
  exact sign_high r (by omega) w
end Go.Proofs.YtfiadgdinhmgbaaGreatDoor
/-! base.Name and spenceref03.Name: whether a text is a name. -/
namespace Go.Proofs.YtfiadgdinhmgbaaGreatDoor
open Go.RowKit Pl
theorem isName_bad (s : List UInt8) (k : Nat) (hk : k < s.length) (h : sgn s[k] = false) : isName s = false := by
 have : s.all sgn = false := by
  rw [List.all_eq_false]; exact ⟨s[k], List.getElem_mem hk, by simp [h]⟩
 simp [isName, this]
theorem isName_good (s : List UInt8) (h : ∀ k (hk : k < s.length), sgn s[k] = true) : isName s = ((s.length != 0) && decide (s.length ≤ 24) && (s.getD 0 0 != 46)) := by
 have : s.all sgn = true := by
  rw [List.all_eq_true]; intro x hx; obtain ⟨k, hk, rfl⟩ := List.getElem_of_mem hx; exact h k hk
 simp [isName, this]
theorem next_low (w : World) (s : List UInt8) (k : Nat) (ty : TypeId) (hk : k < s.length) (ha : s[k].toNat < 128) :
  (Instr.next (.pointer (some ⟨w.heap.size, 0, none⟩)) true ty).run Tryz.prog (w.iter ⟨s.toArray⟩ k) = .ok (.tuple #[.bool true, .int .i64 (k : Int), .int .i32 (s[k].toNat : Int)]) (w.iter ⟨s.toArray⟩ (k + 1)) := by
 have hs : k < (⟨s.toArray⟩ : ByteArray).size := by rw [Agg.bytes_size]; exact hk
 have he : (⟨s.toArray⟩ : ByteArray)[k]'hs = s[k] := by simp [ByteArray.getElem_eq_getElem_data]
 have := run_next_ascii (P := Tryz.prog) w ⟨s.toArray⟩ k ty hs (by rw [he]; exact ha)
 rw [he] at this
 exact this
theorem next_high (w : World) (s : List UInt8) (k : Nat) (ty : TypeId) (hk : k < s.length) (ha : 128 ≤ s[k].toNat) :
  ∃ (r : Int) (k' : Nat), 128 ≤ r ∧ k < k' ∧ (Instr.next (.pointer (some ⟨w.heap.size, 0, none⟩)) true ty).run Tryz.prog (w.iter ⟨s.toArray⟩ k) = .ok (.tuple #[.bool true, .int .i64 (k : Int), .int .i32 r]) (w.iter ⟨s.toArray⟩ k') := by
 have hs : k < (⟨s.toArray⟩ : ByteArray).size := by rw [Agg.bytes_size]; exact hk
 have he : (⟨s.toArray⟩ : ByteArray)[k]'hs = s[k] := by simp [ByteArray.getElem_eq_getElem_data]
 obtain ⟨h1, h2⟩ := decode_high ⟨s.toArray⟩ k hs (by rw [he]; exact ha)
 exact ⟨_, _, by exact_mod_cast h1, by omega, run_next_any (P := Tryz.prog) w ⟨s.toArray⟩ k ty hs⟩
theorem next_end (w : World) (s : List UInt8) (ty : TypeId) :
  (Instr.next (.pointer (some ⟨w.heap.size, 0, none⟩)) true ty).run Tryz.prog (w.iter ⟨s.toArray⟩ s.length) = .ok (.tuple #[.bool false]) (w.iter ⟨s.toArray⟩ s.length) :=
 run_next_end (P := Tryz.prog) w ⟨s.toArray⟩ s.length ty (by rw [Agg.bytes_size]; omega)
theorem signR_byte (c : UInt8) (hc : c.toNat < 128) : signR (c.toNat : Int) = sgn c := by
 unfold signR
 rw [if_pos (by omega)]
 exact signN_sgn c hc
theorem below_iter (w : World) (s : ByteArray) (k : Nat) : Below w.heap.size w (w.iter s k) := (Below.refl _ _).alloc (Nat.le_refl _) _
set_option maxRecDepth 100000 in
set_option maxHeartbeats 1000000 in
theorem name_any (s : List UInt8) (w : World) :
  Calls Tryz.prog 95 #[.string ⟨s.toArray⟩] w fun e w' => e = .returned (.bool (isName s)) ∧ Below w.heap.size w w' := by
 go_enter Tryz.func95, Tryz.ntmps95
 go_wp2_with fail
 go_loopw [4] (fun _ wr => ∃ k : Nat, k ≤ s.length ∧ wr = w.iter ⟨s.toArray⟩ k ∧ ∀ j (hj : j < s.length), j < k → sgn s[j] = true) (fun _ wr => s.length - wr.iterPos w.heap.size)
 case atStart => exact ⟨0, by omega, rfl, by intros; omega⟩
 case round =>
  obtain ⟨k, hk, rfl, hg⟩ := hrel
  have HG := Lib.hid hg
  clear hg
  by_cases hlt : k < s.length
  ·by_cases hc : s[k].toNat < 128
   ·have hn := next_low w s k 0 hlt hc
    cases hsg : sgn s[k] with
    | true =>
     go_wp2_with (go_at_call 126; refine (sign_any _ (by omega) _).mono ?_; rintro e w' ⟨rfl, rfl⟩; rw [signR_byte _ hc, hsg])
     go_roundw
     case rel => exact ⟨k + 1, by omega, rfl, fun j hj h => by
      rcases Nat.lt_or_ge j k with h' | h'
      ·exact HG.out j hj h'
      ·obtain rfl : j = k := by omega
       exact hsg⟩
     case measure => simp; omega
    | false =>
     go_wp2_with (go_at_call 126; refine (sign_any _ (by omega) _).mono ?_; rintro e w' ⟨rfl, rfl⟩; rw [signR_byte _ hc, hsg])
     go_ret
     exact ⟨ret_bool (isName_bad s k hlt hsg).symm, below_iter _ _ _⟩
   ·obtain ⟨r, k', hr, hk', hn⟩ := next_high w s k 0 hlt (by omega)
    have hsg : sgn s[k] = false := by
     cases h : sgn s[k] with
     | true => exact absurd (sgn_small _ h) hc
     | false => rfl
    have HS := Lib.hid hsg
    clear hsg
    go_wp2_with (go_at_call 126; refine (sign_high _ hr _).mono ?_; rintro e w' ⟨rfl, rfl⟩)
    go_ret
    exact ⟨ret_bool (isName_bad s k hlt HS.out).symm, below_iter _ _ _⟩
  ·obtain rfl : k = s.length := by omega
   have hn := next_end w s 0
   have hgood := isName_good s (fun j hj => HG.out j hj hj)
   have HI := Lib.hid hgood
   clear hgood
   cases s with
   | nil =>
    simp only [List.length_nil] at hn
    go_wp2_with fail
    go_ret
    exact ⟨ret_bool (by rw [HI.out]; rfl), below_iter _ _ _⟩
   | cons c l =>
    have hix : ∀ w, (Instr.index 9 (.string ⟨(c :: l).toArray⟩) (.int .i64 0)).run Tryz.prog w = .ok (.int .u8 (c.toNat : Int)) w := fun w => Agg.run_index_str (i := 0) w Tryz.underlying9 rfl
    simp only [List.length_cons] at hn
    go_wp2_with fail
    all_goals go_ret
    all_goals refine ⟨ret_bool ?_, below_iter _ _ _⟩
    all_goals rw [HI.out]
    ·have h24 : (l.length : Int) + 1 ≤ 24 := by assumption
     have e : (((c.toNat : Int)) != 46) = (c != 46) := by
      rw [Bool.eq_iff_iff]; simp only [bne_iff_ne, ne_eq]; rw [← UInt8.toNat_inj]; simp; omega
     simp [e, show l.length + 1 ≤ 24 by omega]
    ·have h24 : 24 < (l.length : Int) + 1 := by assumption
     simp [show ¬ l.length + 1 ≤ 24 by omega]
end Go.Proofs.YtfiadgdinhmgbaaGreatDoor
/-! tree.named: whether kids' names are right. -/
namespace Go.Tr
def lastN (b : Option (List UInt8)) : List K → Option (List UInt8)
 | [] => b
 | (n, _) :: l => lastN (some n) l
def nameOk (b : Option (List UInt8)) (n : List UInt8) : Bool := Pl.isName n && (match b with | none => true | some c => Op.bytesLess c n)
theorem named_snoc : ∀ (l : List K) (b : Option (List UInt8)) (x : K), named b (l ++ [x]) = (named b l && nameOk (lastN b l) x.1)
 | [], b, x => by obtain ⟨n, t⟩ := x; cases b <;> simp [named, lastN, nameOk]
 | (n, t) :: l, b, x => by simp only [List.cons_append, named, lastN, named_snoc l (some n) x, Bool.and_assoc]
theorem named_more : ∀ (l m : List K) (b : Option (List UInt8)), named b l = false → named b (l ++ m) = false
 | [], m, b, h => by simp [named] at h
 | (n, t) :: l, m, b, h => by
  simp only [List.cons_append, named] at h ⊢
  cases h1 : named (some n) l with
  | false => rw [named_more l m (some n) h1, Bool.and_false]
  | true => rw [h1, Bool.and_true] at h; rw [h, Bool.false_and]
theorem named_take {l : List K} {k : Nat} (h : named none (l.take k) = false) : named none l = false := by
 have := named_more (l.take k) (l.drop k) none h
 rwa [List.take_append_drop] at this
theorem lastN_snoc : ∀ (l : List K) (b : Option (List UInt8)) (x : K), lastN b (l ++ [x]) = some x.1
 | [], b, x => rfl
 | (n, t) :: l, b, x => by simp only [List.cons_append, lastN, lastN_snoc l (some n) x]
theorem lastN_take {l : List K} {k : Nat} {y : K} (hk : 0 < k) (h : l[k - 1]? = some y) : lastN none (l.take k) = some y.1 := by
 obtain ⟨j, rfl⟩ : ∃ j, k = j + 1 := ⟨k - 1, by omega⟩
 rw [take_succ' (by simpa using h), lastN_snoc]
end Go.Tr
namespace Go.Proofs.YtfiadgdinhmgbaaGreatDoor
open Go.RowKit Pl Go.Agg Go.Tr
theorem nameD (s : List UInt8) {b : Bool} (hb : isName s = b) (w : World) :
  Calls Tryz.prog 95 #[.string ⟨s.toArray⟩] w fun e w' => e = .returned (.bool b) ∧ Below w.heap.size w w' := by
 subst hb
 exact name_any s w
theorem i64_predK (n : Nat) (h0 : 0 < n) (h : n ≤ 1048576) : IntKind.i64.wrap ((n : Int) - 1) = ((n - 1 : Nat) : Int) := by
 rw [IntKind.wrap_i64]; omega
theorem KdL.of_blk {w : World} {g : Nat} {y : KdV} (h : Blk w g 28 (kdC y)) : KdL w ⟨g, 0, none⟩ y :=
 KdL.of_cells h.lt (fun j u hj => by rw [add_plain, Nat.zero_add, h.cell]; exact hj)
def NmsAre : List KdV → List K → Prop
 | [], [] => True
 | y :: ks, (n, _) :: l => y.1 = n ∧ NmsAre ks l
 | _, _ => False
theorem KidsV.nms {w : World} : ∀ {ks : List KdV} {l : List K}, KidsV w ks l → NmsAre ks l
 | [], [], _ => trivial
 | _ :: _, (_, _) :: _, h => ⟨h.1, h.2.2.nms⟩
 | [], _ :: _, h => h.elim
 | _ :: _, [], h => h.elim
theorem NmsAre.len : ∀ {ks : List KdV} {l : List K}, NmsAre ks l → ks.length = l.length
 | [], [], _ => rfl
 | _ :: _, (_, _) :: _, h => by simp [NmsAre.len h.2]
 | [], _ :: _, h => h.elim
 | _ :: _, [], h => h.elim
theorem NmsAre.at_ : ∀ {ks : List KdV} {l : List K} (k : Nat) (x : K), NmsAre ks l → l[k]? = some x → ∃ y, ks[k]? = some y ∧ y.1 = x.1
 | [], [], _, _, _, h => by simp at h
 | y :: _, (n, t) :: _, 0, x, h, hx => by
  simp only [List.getElem?_cons_zero, Option.some.injEq] at hx
  subst hx
  exact ⟨y, rfl, h.1⟩
 | _ :: _, (_, _) :: _, k + 1, x, h, hx => by
  simp only [List.getElem?_cons_succ] at hx ⊢
  exact NmsAre.at_ k x h.2 hx
 | [], _ :: _, _, _, h, _ => h.elim
 | _ :: _, [], _, _, h, _ => h.elim
set_option maxRecDepth 100000 in
set_option maxHeartbeats 8000000 in
theorem named_any (v : Value) (ks : List KdV) (l : List K) (hl : l.length ≤ 1048576) (w : World) (hs : SliceOf EK w v ks) (hn : NmsAre ks l) :
  Calls Tryz.prog 124 #[v] w fun e w' => e = .returned (.bool (named none l)) ∧ Below w.heap.size w w' := by
 have hlen := hn.len
 have hlk := kds_len hs
 rw [hlen] at hlk
 have HS := Lib.hid hs
 have HN := Lib.hid hn
 clear hs hn
 go_enter Tryz.func124, Tryz.ntmps124
 go_wp2_with fail
 go_loopw [7] (fun i wr => ∃ k : Nat, k ≤ l.length ∧ i = .int .i64 (k : Int) ∧ named none (l.take k) = true ∧ Below w.heap.size w wr) (fun i _ => l.length - (intOf i).toNat)
 case atStart => exact ⟨0, by omega, rfl, rfl, Below.refl _ _⟩
 case round =>
  obtain ⟨w2, rfl⟩ : ∃ w2 : World, w2 = wr := ⟨_, rfl⟩
  obtain ⟨k, hk, rfl, hnm, hx⟩ := hrel
  have HNM := Lib.hid hnm
  have HX := Lib.hid hx
  have HSX := Lib.hid (HS.out.below hx)
  clear hnm hx
  by_cases hlt : k < l.length
  ·have hd : decide ((k : Int) < (l.length : Int)) = true := by simp <;> omega
   obtain ⟨x, hxk⟩ : ∃ x, l[k]? = some x := ⟨_, List.getElem?_eq_getElem hlt⟩
   obtain ⟨y, hyk, hyx⟩ := HN.out.at_ k x hxk
   obtain ⟨p, hadr, hle⟩ := kid_at HSX.out k y hyk
   have HE := Lib.hid hle.all
   have HSN := Lib.hid (show named none (l.take (k + 1)) = (named none (l.take k) && nameOk (lastN none (l.take k)) x.1) by rw [take_succ' hxk, named_snoc])
   have HYX := Lib.hid hyx
   clear hle hyx hxk hyk
   go_wp2_with (first | (with_reducible refine wpList_loadL HE.out rfl _ rfl rfl ?_) | (refine Agg.wpList_zero rfl 28 rfl (kdC kdZ) kd_zero ?_; intro g3 wz hb hx hg; have HKZ := Lib.hid hb; have HXZ := Lib.hid hx; have HGZ := Lib.hid hg; have HE := Lib.hid (HE.out.below hx); clear hb hx hg) | (refine Agg.wpList_put rfl rfl 28 _ _ rfl g3 (kdC y) (kdC kdZ) rfl rfl HKZ.out (kd_info y) rfl (kdC_one y) ?_; intro w3 hb hx hs hk; have HK3 := Lib.hid (KdL.of_blk hb); have HX3 := Lib.hid (belowThen HX.out (Nat.le_refl _) (HXZ.out.trans (hx.mono HGZ.out))); have HS3 := Lib.hid (HSX.out.below (HXZ.out.trans (hx.mono HGZ.out))); clear hb hx hs hk))
   have HBAD : Hid (nameOk (lastN none (l.take k)) x.1 = false → named none l = false) := Lib.hid (fun h => named_take (k := k + 1) (by rw [HSN.out, h, Bool.and_false]))
   have HNX : Hid (nameOk (lastN none (l.take k)) x.1 = true → named none (l.take (k + 1)) = true) := Lib.hid (fun h => by rw [HSN.out, h, HNM.out]; rfl)
   clear hadr
   cases hnx : isName x.1 with
   | false =>
    have HR := Lib.hid (HBAD.out (by simp [nameOk, hnx]))
    have HC := Lib.hid (fun W => nameD y.1 (b := false) (by rw [HYX.out]; exact hnx) W)
    clear hnx
    try simp only [Act.put, List.setIfInBounds_toArray, List.set_cons_succ, List.set_cons_zero]
    refine wp_region_later_lit (by kernel_rfl) (by kernel_rfl) ?_
    repeat (first | go_big_quiet_skip | ((first | (with_reducible refine wpQuiet_loadL HK3.out.name rfl _ rfl rfl ?_)); simp only [Act.put, List.setIfInBounds_toArray, List.set_cons_succ, List.set_cons_zero]) | go_big_quiet_step (first | (go_at_call 95; first | (with_reducible exact Calls.later (HC.out _)))))
    refine wpQuiet_nil ?_
    intro _ hw'
    obtain ⟨x1, rfl⟩ := hw'
    go_wp2_with fail
    go_ret
    exact ⟨ret_bool HR.out.symm, belowThen HX3.out (Nat.le_refl _) x1.h⟩
   | true =>
    have HC := Lib.hid (fun W => nameD y.1 (b := true) (by rw [HYX.out]; exact hnx) W)
    by_cases hk0 : k = 0
    ·have hkd : decide (0 < (k : Int)) = false := by simp <;> omega
     have HG := Lib.hid (HNX.out (by subst hk0; simp [nameOk, hnx, lastN]))
     clear hnx
     try simp only [Act.put, List.setIfInBounds_toArray, List.set_cons_succ, List.set_cons_zero]
     refine wp_region_later_lit (by kernel_rfl) (by kernel_rfl) ?_
     repeat (first | go_big_quiet_skip | ((first | (with_reducible refine wpQuiet_loadL HK3.out.name rfl _ rfl rfl ?_)); simp only [Act.put, List.setIfInBounds_toArray, List.set_cons_succ, List.set_cons_zero]) | go_big_quiet_step (first | (go_at_call 95; first | (with_reducible exact Calls.later (HC.out _)))))
     refine wpQuiet_nil ?_
     intro _ hw'
     obtain ⟨x1, rfl⟩ := hw'
     have hx6 := belowThen HX3.out (Nat.le_refl _) x1.h
     go_wp2_with fail
     go_roundw
     case rel => exact ⟨k + 1, by omega, by go_num, HG.out, hx6⟩
     case measure => simp [intOf]; omega
    ·have hkd : 0 < k := by omega
     have hkd2 : decide (0 < k) = true := by simpa using hkd
     obtain ⟨z, hzk⟩ : ∃ z, l[k - 1]? = some z := ⟨_, List.getElem?_eq_getElem (by omega)⟩
     obtain ⟨u, huk, huz⟩ := HN.out.at_ (k - 1) z hzk
     obtain ⟨q, hadq, hlq⟩ := kid_at HS3.out (k - 1) u huk
     have hlz := lastN_take hkd hzk
     have HQ := Lib.hid hlq.name
     have hwr := i64_predK k (by omega) (by omega)
     cases hbl : Op.bytesLess z.1 x.1 with
     | false =>
      have HR := Lib.hid (HBAD.out (by rw [hlz]; simp [nameOk, hbl]))
      have HGE := Lib.hid (show (!Op.bytesLess u.1 y.1) = true by rw [huz, HYX.out, hbl]; rfl)
      clear hnx hbl hlq huk huz hlz
      try simp only [Act.put, List.setIfInBounds_toArray, List.set_cons_succ, List.set_cons_zero]
      refine wp_region_later_lit (by kernel_rfl) (by kernel_rfl) ?_
      repeat (first | go_big_quiet_skip | ((first | (with_reducible refine wpQuiet_loadL HK3.out.name rfl _ rfl rfl ?_) | (with_reducible refine wpQuiet_loadL HQ.out rfl _ rfl rfl ?_) | (with_reducible refine wpQuiet_geqS rfl rfl rfl rfl true HGE.out ?_)); simp only [Act.put, List.setIfInBounds_toArray, List.set_cons_succ, List.set_cons_zero]) | go_big_quiet_step (first | (go_at_call 95; first | (with_reducible exact Calls.later (HC.out _)))))
      refine wpQuiet_nil ?_
      intro _ hw'
      obtain ⟨x1, rfl⟩ := hw'
      go_wp2_with fail
      go_ret
      exact ⟨ret_bool HR.out.symm, belowThen HX3.out (Nat.le_refl _) x1.h⟩
     | true =>
      have HG := Lib.hid (HNX.out (by rw [hlz]; simp [nameOk, hnx, hbl]))
      have HGE := Lib.hid (show (!Op.bytesLess u.1 y.1) = false by rw [huz, HYX.out, hbl]; rfl)
      clear hnx hbl hlq huk huz hlz
      try simp only [Act.put, List.setIfInBounds_toArray, List.set_cons_succ, List.set_cons_zero]
      refine wp_region_later_lit (by kernel_rfl) (by kernel_rfl) ?_
      repeat (first | go_big_quiet_skip | ((first | (with_reducible refine wpQuiet_loadL HK3.out.name rfl _ rfl rfl ?_) | (with_reducible refine wpQuiet_loadL HQ.out rfl _ rfl rfl ?_) | (with_reducible refine wpQuiet_geqS rfl rfl rfl rfl false HGE.out ?_)); simp only [Act.put, List.setIfInBounds_toArray, List.set_cons_succ, List.set_cons_zero]) | go_big_quiet_step (first | (go_at_call 95; first | (with_reducible exact Calls.later (HC.out _)))))
      refine wpQuiet_nil ?_
      intro _ hw'
      obtain ⟨x1, rfl⟩ := hw'
      have hx6 := belowThen HX3.out (Nat.le_refl _) x1.h
      go_wp2_with fail
      go_roundw
      case rel => exact ⟨k + 1, by omega, by go_num, HG.out, hx6⟩
      case measure => simp [intOf]; omega
  ·obtain rfl : k = l.length := by omega
   have hd1 : decide (((l.length : Nat) : Int) < ((l.length : Nat) : Int)) = false := by simp
   have HR := Lib.hid (show named none l = true by have := HNM.out; rwa [List.take_length] at this)
   go_wp2_with fail
   go_ret
   exact ⟨ret_bool HR.out.symm, HX.out⟩
end Go.Proofs.YtfiadgdinhmgbaaGreatDoor
/-! base.Letters: the letters of any hash. -/
namespace Go.Proofs.YtfiadgdinhmgbaaGreatDoor
open Go.RowKit Pl
end Go.Proofs.YtfiadgdinhmgbaaGreatDoor
/-! Bytes and texts as elements. -/
namespace Go.Proofs.YtfiadgdinhmgbaaGreatDoor
open Go.RowKit Pl Go.Agg
def ES : Elem Tryz.prog (List UInt8) where
 ty := 9
 st := 100
 n := 1
 bytes := 16
 val := fun s => .string ⟨s.toArray⟩
 zero := .string ⟨#[]⟩
 pos := by omega
 small := by omega
 size := fun x => rfl
 one := fun x v hv => by
  obtain rfl : v = .string ⟨x.toArray⟩ := by simpa [Value.cells] using hv
  rfl
 zsize := rfl
 slice := by kernel_rfl
 info := info_of (by kernel_rfl) (by kernel_rfl) (by kernel_rfl)
 load := fun w a x hp h => LoadsL.of_cell (by have := h 0 _ rfl; rwa [show a.add 0 = a from rfl] at this) Tryz.underlying9 rfl
end Go.Proofs.YtfiadgdinhmgbaaGreatDoor
