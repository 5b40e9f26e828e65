/- spenceref08.alone: whether a node is right by itself. (Several texts in one.) -/
import Derived.Test.YtfiadgdinhmgbaaDoorHAD
import Derived.Test.YtfiadgdinhmgbaaDoorHAI
/-! (of general use) spenceref03: bit, Letters, value, within. -/
namespace Go.Proofs.YtfiadgdinhmgbaaDoor
open Go.RowKit Pl
theorem within_any (c lo hi : Int) (w : World) :
  Calls Tryd.prog 91 #[.int .u8 c, .int .u8 lo, .int .u8 hi] w fun e w' => e = .returned (.bool (wi c lo hi)) ∧ w = w' := by
 by_cases h : lo ≤ c
 ·go_enter Tryd.func91, Tryd.ntmps91
  go_wp2_with fail
  go_ret
  exact ⟨by simp [wi, h], rfl⟩
 ·have hd : decide (lo ≤ c) = false := by simp; omega
  go_enter Tryd.func91, Tryd.ntmps91
  go_wp2_with fail
  go_ret
  exact ⟨by simp [wi, hd], rfl⟩
def bitAt (h : List UInt8) (i : Nat) : Nat := num 256 (nats h) / 2 ^ i % 2
theorem bitAt_eq (h : List UInt8) (i : Nat) (hi : i / 8 < h.length) : bitAt h i = (h[i / 8]?.getD 0).toNat / 2 ^ (i % 8) % 2 := by
 have hd := digs_num 256 (nats h) (nats_lt h)
 have hq := digs_getElem? 256 (nats h).length (num 256 (nats h)) (i / 8) (by simpa [nats] using hi)
 rw [hd] at hq
 have hn : (nats h)[i / 8]? = some (h[i / 8]?.getD 0).toNat := by simp [nats, List.getElem?_eq_getElem hi]
 rw [hn] at hq
 have hx := Option.some.inj hq
 unfold bitAt
 have e : num 256 (nats h) / 2 ^ i = num 256 (nats h) / 256 ^ (i / 8) / 2 ^ (i % 8) := by
  rw [pow256, Nat.div_div_eq_div_mul, ← Nat.pow_add, Nat.div_add_mod]
 rw [e, hx]
 generalize num 256 (nats h) / 256 ^ (i / 8) = y
 have hr : i % 8 < 8 := Nat.mod_lt _ (by omega)
 generalize i % 8 = r at hr
 have : r = 0 ∨ r = 1 ∨ r = 2 ∨ r = 3 ∨ r = 4 ∨ r = 5 ∨ r = 6 ∨ r = 7 := by omega
 rcases this with rfl | rfl | rfl | rfl | rfl | rfl | rfl | rfl <;> omega
def valI (c : UInt8) : Int := match val c with | some n => (n : Int) | none => -1
def part (h : List UInt8) (i t : Nat) : Nat := num 256 (nats h) / 2 ^ (5 * i + t) % 2 ^ (5 - t)
theorem part_lt (h : List UInt8) (i t : Nat) : part h i t < 32 :=
 Nat.lt_of_lt_of_le (Nat.mod_lt _ (Nat.pow_pos (by omega))) (Nat.pow_le_pow_right (n := 2) (by omega) (by omega : 5 - t ≤ 5))
theorem part_5 (h : List UInt8) (i : Nat) : part h i 5 = 0 := by simp [part, Nat.mod_one]
theorem part_0 (h : List UInt8) (i : Nat) : part h i 0 = num 256 (nats h) / 32 ^ i % 32 := by simp [part, pow32]
theorem part_step (h : List UInt8) (i t : Nat) (ht : t < 5) : part h i t = 2 * part h i (t + 1) + bitAt h (5 * i + t) := by
 unfold part bitAt
 rw [show 5 - t = (5 - (t + 1)) + 1 by omega, Nat.pow_succ', Nat.mod_mul, Nat.div_div_eq_div_mul, ← Nat.pow_succ, show (5 * i + t).succ = 5 * i + (t + 1) by omega]
 omega
theorem bitAt_lt (h : List UInt8) (i : Nat) : bitAt h i < 2 := Nat.mod_lt _ (by omega)
theorem refLetters_step (h : List UInt8) (k : Nat) (hk : k < 32) : ({ data := (List.take k (letters h)).toArray } : ByteArray) ++
  ByteArray.extract ⟨#[48, 49, 50, 51, 52, 53, 54, 55, 56, 57, 97, 98, 99, 100, 102, 103, 104, 105, 106, 107, 108, 109, 110, 112, 113, 114, 115, 118, 119, 120, 121, 122]⟩ (part h k 0) (part h k 0 + 1) = { data := (List.take (k + 1) (letters h)).toArray } := by
 show ({ data := (List.take k (letters h)).toArray } : ByteArray) ++ ByteArray.extract ⟨alpha.toArray⟩ (part h k 0) (part h k 0 + 1) = { data := (List.take (k + 1) (letters h)).toArray }
 have hp := part_lt h k 0
 have hl : k < (letters h).length := by rw [letters_length]; exact hk
 rw [Agg.bytes_extract, Agg.bytes_append, List.take_succ_eq_append_getElem hl]
 congr 3
 have ha : part h k 0 < alpha.length := hp
 rw [List.take_succ_eq_append_getElem ha, List.drop_append_of_le_length (by simp; omega), List.drop_eq_nil_of_le (by simp; omega), List.nil_append]
 congr 1
 have : (letters h)[k]? = some (letter (part h k 0)) := by
  unfold letters
  rw [List.getElem?_map, digs_getElem? _ _ _ _ hk, part_0]; rfl
 rw [List.getElem?_eq_getElem hl] at this
 rw [Option.some.inj this]
 simp [letter, List.getD, List.getElem?_eq_getElem ha]
end Go.Proofs.YtfiadgdinhmgbaaDoor
/-! spenceref03.Name. -/
namespace Go.Proofs.YtfiadgdinhmgbaaDoor
open Go.RowKit Pl
theorem sgn_wi (c : UInt8) : sgn c = (wi c.toNat 97 122 || wi c.toNat 65 90 || wi c.toNat 48 57 || ((c.toNat : Int) == 46) || ((c.toNat : Int) == 95) || ((c.toNat : Int) == 43) || ((c.toNat : Int) == 45)) := by
 have : ∀ n : Nat, n < 256 → sgn (UInt8.ofNat n) = (wi n 97 122 || wi n 65 90 || wi n 48 57 || ((n : Int) == 46) || ((n : Int) == 95) || ((n : Int) == 43) || ((n : Int) == 45)) := by decide +kernel
 have h := this c.toNat c.toNat_lt
 rwa [UInt8.ofNat_toNat] at h
theorem n45 {x : Int} (h : (x != 45) = false) : x = 45 := by simpa using h
set_option maxRecDepth 100000 in
set_option maxHeartbeats 2000000 in
theorem refName_any (s : List UInt8) (hs : s.length ≤ 9223372036854775807) (w : World) :
  Calls Tryd.prog 68 #[.string ⟨s.toArray⟩] w fun e w' => e = .returned (.bool (isName s)) ∧ w = w' := by
 have hsz := Agg.bytes_size s
 have HS := Lib.hid hsz
 have hlen : ∀ w, (Builtin.len_ #[9] 3 #[.string ⟨s.toArray⟩]).run Tryd.prog w = .ok (.int .i64 (s.length : Int)) w := fun w => by rw [run_len_string w 9 3 _ Tryd.underlying9, hsz]; rfl
 clear hsz
 go_enter Tryd.func68, Tryd.ntmps68
 go_wp2_with fail
 go_loop [3] (fun i => ∃ k : Nat, k ≤ s.length ∧ i = .int .i64 k ∧ ∀ j (hj : j < s.length), j < k → sgn s[j] = true) (fun i => s.length - (intOf i).toNat)
 case atStart => exact ⟨0, by omega, rfl, by intros; omega⟩
 case round =>
  obtain ⟨k, hk, rfl, hg⟩ := hrel
  have HG := Lib.hid hg
  clear hg
  by_cases hlt : k < s.length
  ·have hix := fun w => Agg.run_index_str (P := Tryd.prog) (k := .i64) (c := s[k]) w Tryd.underlying9 (List.getElem?_eq_getElem hlt)
   have hsg := sgn_wi s[k]
   have HS := Lib.hid hsg
   clear hsg
   generalize hc : s[k] = c at hix HS
   have HC := Lib.hid hc
   clear hc
   go_wp2_with (go_at_call 91; refine (within_any _ _ _ _).mono ?_; rintro e w' ⟨rfl, rfl⟩)
   ·have h45 : ((c.toNat : Int) != 45) = true := by assumption
    have hsg : sgn s[k] = false := by rw [HC.out, HS.out]; simp [*]; simpa using h45
    go_ret
    exact ⟨ret_bool (isName_bad s k hlt hsg).symm, rfl⟩
   all_goals
    have hsg : sgn s[k] = true := by rw [HC.out, HS.out]; first | (simp [*]; done) | (have h45 := n45 ‹((c.toNat : Int) != 45) = false›; simp [h45]; done)
    go_round
    case rel => exact ⟨k + 1, by omega, by go_num, fun j hj h => by
     rcases Nat.lt_or_ge j k with h' | h'
     ·exact HG.out j hj h'
     ·obtain rfl : j = k := by omega
      exact hsg⟩
    case measure => simp [intOf]; omega
  ·obtain rfl : k = s.length := by omega
   have hgood := isName_good s (fun j hj => HG.out j hj hj)
   have HI := Lib.hid hgood
   clear hgood
   cases s with
   | nil =>
    simp only [List.length_nil] at hlen
    go_wp2_with fail
    go_ret
    exact ⟨ret_bool (by rw [HI.out]; rfl), rfl⟩
   | cons c l =>
    have hix : ∀ w, (Instr.index 9 (.string ⟨(c :: l).toArray⟩) (.int .i64 0)).run Tryd.prog w = .ok (.int .u8 (c.toNat : Int)) w := fun w => Agg.run_index_str (i := 0) w Tryd.underlying9 rfl
    simp only [List.length_cons] at hlen
    go_wp2_with fail
    all_goals go_ret
    all_goals refine ⟨ret_bool ?_, rfl⟩
    all_goals rw [HI.out]
    ·have h24 : (l.length : Int) + 1 ≤ 24 := by assumption
     have e : (((c.toNat : Int)) != 46) = (c != 46) := by
      rw [Bool.eq_iff_iff]; simp only [bne_iff_ne, ne_eq]; rw [← UInt8.toNat_inj]; simp; omega
     simp [e, show l.length + 1 ≤ 24 by omega]
    ·have h24 : 24 < (l.length : Int) + 1 := by assumption
     simp [show ¬ l.length + 1 ≤ 24 by omega]
end Go.Proofs.YtfiadgdinhmgbaaDoor
/-! spenceref08.alone: whether a node is right by itself. -/
namespace Go.Tr
theorem alone_12 {k : Int} {b : List UInt8} {l : List K} (h : k = 1 ∨ k = 2) : alone (.mk k b l) = (decide (b.length ≤ 2048) && l.isEmpty) := by
 rcases h with rfl | rfl <;> simp [alone]
theorem alone_3 {b : List UInt8} {l : List K} : alone (.mk 3 b l) = (decide (1 ≤ b.length) && decide (b.length ≤ 200) && l.isEmpty) := by simp [alone]
theorem alone_4 {b : List UInt8} {l : List K} : alone (.mk 4 b l) = (b.isEmpty && decide (l.length ≤ 200) && named none l) := by simp [alone]
theorem alone_no {k : Int} {b : List UInt8} {l : List K} (h1 : k ≠ 1) (h2 : k ≠ 2) (h3 : k ≠ 3) (h4 : k ≠ 4) : alone (.mk k b l) = false := by simp [alone, h1, h2, h3, h4]
end Go.Tr
namespace Go.Proofs.YtfiadgdinhmgbaaDoor
open Go.RowKit Pl Go.Agg Go.Tr
theorem refNameD (s : List UInt8) {b : Bool} (hb : isName s = b) (hs : s.length ≤ 1048576) (w : World) :
  Calls Tryd.prog 68 #[.string ⟨s.toArray⟩] w fun e w' => e = .returned (.bool b) ∧ Below w.heap.size w w' := by
 subst hb
 exact (refName_any s (by omega) w).mono fun e w' ⟨h1, h2⟩ => ⟨h1, h2 ▸ Below.refl _ _⟩
set_option maxRecDepth 100000 in
set_option maxHeartbeats 8000000 in
theorem ralone_any (v : Value) (t : T) (hm : msz t ≤ 1048576) (w : World) (hv : NodeAt w v t) :
  Calls Tryd.prog 90 #[v] w fun e w' => e = .returned (.bool (alone t)) ∧ Below w.heap.size w w' := by
 obtain ⟨x, rfl, hx⟩ := hv
 obtain ⟨k, b, l⟩ := t
 obtain ⟨kx, vb, vk⟩ := x
 obtain ⟨hk, hby, ks, hsl, hkv⟩ := hx
 have hk : kx = k := hk
 subst hk
 have hkl := hkv.len
 have hlb := fun W => bytes_len hby W
 have hlk := fun W => kds_len hsl W
 rw [hkl] at hlk
 have hbm := bytes_msz kx b l
 have hkm := kids_msz kx b l
 have hlm : mszL l ≤ 1048576 := by simp only [msz] at hm; omega
 have HSL := Lib.hid hsl
 have HN := Lib.hid hkv.nms
 have HLM := Lib.hid (fun x (hx : x ∈ l) => show x.1.length ≤ 1048576 by have := mem_mszL hx; omega)
 clear hby hsl hkv hkl
 go_enter Tryd.func90, Tryd.ntmps90
 by_cases h1 : kx = 1
 ·subst h1
  by_cases hb : b.length ≤ 2048
  ·have hbd : decide ((b.length : Int) ≤ 2048) = true := by simp; omega
   by_cases hl : l.length = 0
   ·have HL := Lib.hid hl
    have hz1 : decide (((l.length : Nat) : Int) = 0) = true := decide_eq_true (by omega)
    have hz2 : (((l.length : Nat) : Int) == 0) = true := by rw [beq_iff_eq]; omega
    clear hl
    go_wp2_with (first | (refine wpList_box rfl 26 _ rfl (ndC (_, vb, vk)) rfl ?_; intro g1 w1 hb hx hg; have HB := Lib.hid hb; have HX := Lib.hid hx; have HS1 := Lib.hid (HSL.out.below hx); clear hb hx hg) | (with_reducible refine wpList_loadL (NdL.of_blk HB.out).kind rfl _ rfl rfl ?_) | (with_reducible refine wpList_loadL (NdL.of_blk HB.out).bytes rfl _ rfl rfl ?_) | (with_reducible refine wpList_loadL (NdL.of_blk HB.out).kids rfl _ rfl rfl ?_))
    go_ret
    exact ⟨ret_bool (by rw [alone_12 (by decide)]; have hl := HL.out; cases l <;> simp_all), HX.out⟩
   ·have HL := Lib.hid hl
    have hz1 : decide (((l.length : Nat) : Int) = 0) = false := decide_eq_false (by omega)
    have hz2 : (((l.length : Nat) : Int) == 0) = false := by rw [beq_eq_false_iff_ne]; omega
    clear hl
    go_wp2_with (first | (refine wpList_box rfl 26 _ rfl (ndC (_, vb, vk)) rfl ?_; intro g1 w1 hb hx hg; have HB := Lib.hid hb; have HX := Lib.hid hx; have HS1 := Lib.hid (HSL.out.below hx); clear hb hx hg) | (with_reducible refine wpList_loadL (NdL.of_blk HB.out).kind rfl _ rfl rfl ?_) | (with_reducible refine wpList_loadL (NdL.of_blk HB.out).bytes rfl _ rfl rfl ?_) | (with_reducible refine wpList_loadL (NdL.of_blk HB.out).kids rfl _ rfl rfl ?_))
    go_ret
    exact ⟨ret_bool (by rw [alone_12 (by decide)]; have hl := HL.out; cases l <;> simp_all), HX.out⟩
  ·have hbd : decide ((b.length : Int) ≤ 2048) = false := by simp; omega
   go_wp2_with (first | (refine wpList_box rfl 26 _ rfl (ndC (_, vb, vk)) rfl ?_; intro g1 w1 hb hx hg; have HB := Lib.hid hb; have HX := Lib.hid hx; have HS1 := Lib.hid (HSL.out.below hx); clear hb hx hg) | (with_reducible refine wpList_loadL (NdL.of_blk HB.out).kind rfl _ rfl rfl ?_) | (with_reducible refine wpList_loadL (NdL.of_blk HB.out).bytes rfl _ rfl rfl ?_) | (with_reducible refine wpList_loadL (NdL.of_blk HB.out).kids rfl _ rfl rfl ?_))
   go_ret
   exact ⟨ret_bool (by rw [alone_12 (by decide)]; simp [hb]), HX.out⟩
 have hk1 : decide (kx = 1) = false := by simpa using h1
 have hq1 : (kx == 1) = false := by simpa using h1
 by_cases h2 : kx = 2
 ·subst h2
  by_cases hb : b.length ≤ 2048
  ·have hbd : decide ((b.length : Int) ≤ 2048) = true := by simp; omega
   by_cases hl : l.length = 0
   ·have HL := Lib.hid hl
    have hz1 : decide (((l.length : Nat) : Int) = 0) = true := decide_eq_true (by omega)
    have hz2 : (((l.length : Nat) : Int) == 0) = true := by rw [beq_iff_eq]; omega
    clear hl
    go_wp2_with (first | (refine wpList_box rfl 26 _ rfl (ndC (_, vb, vk)) rfl ?_; intro g1 w1 hb hx hg; have HB := Lib.hid hb; have HX := Lib.hid hx; have HS1 := Lib.hid (HSL.out.below hx); clear hb hx hg) | (with_reducible refine wpList_loadL (NdL.of_blk HB.out).kind rfl _ rfl rfl ?_) | (with_reducible refine wpList_loadL (NdL.of_blk HB.out).bytes rfl _ rfl rfl ?_) | (with_reducible refine wpList_loadL (NdL.of_blk HB.out).kids rfl _ rfl rfl ?_))
    go_ret
    exact ⟨ret_bool (by rw [alone_12 (by decide)]; have hl := HL.out; cases l <;> simp_all), HX.out⟩
   ·have HL := Lib.hid hl
    have hz1 : decide (((l.length : Nat) : Int) = 0) = false := decide_eq_false (by omega)
    have hz2 : (((l.length : Nat) : Int) == 0) = false := by rw [beq_eq_false_iff_ne]; omega
    clear hl
    go_wp2_with (first | (refine wpList_box rfl 26 _ rfl (ndC (_, vb, vk)) rfl ?_; intro g1 w1 hb hx hg; have HB := Lib.hid hb; have HX := Lib.hid hx; have HS1 := Lib.hid (HSL.out.below hx); clear hb hx hg) | (with_reducible refine wpList_loadL (NdL.of_blk HB.out).kind rfl _ rfl rfl ?_) | (with_reducible refine wpList_loadL (NdL.of_blk HB.out).bytes rfl _ rfl rfl ?_) | (with_reducible refine wpList_loadL (NdL.of_blk HB.out).kids rfl _ rfl rfl ?_))
    go_ret
    exact ⟨ret_bool (by rw [alone_12 (by decide)]; have hl := HL.out; cases l <;> simp_all), HX.out⟩
  ·have hbd : decide ((b.length : Int) ≤ 2048) = false := by simp; omega
   go_wp2_with (first | (refine wpList_box rfl 26 _ rfl (ndC (_, vb, vk)) rfl ?_; intro g1 w1 hb hx hg; have HB := Lib.hid hb; have HX := Lib.hid hx; have HS1 := Lib.hid (HSL.out.below hx); clear hb hx hg) | (with_reducible refine wpList_loadL (NdL.of_blk HB.out).kind rfl _ rfl rfl ?_) | (with_reducible refine wpList_loadL (NdL.of_blk HB.out).bytes rfl _ rfl rfl ?_) | (with_reducible refine wpList_loadL (NdL.of_blk HB.out).kids rfl _ rfl rfl ?_))
   go_ret
   exact ⟨ret_bool (by rw [alone_12 (by decide)]; simp [hb]), HX.out⟩
 have hk2 : decide (kx = 2) = false := by simpa using h2
 have hq2 : (kx == 2) = false := by simpa using h2
 by_cases h3 : kx = 3
 ·subst h3
  by_cases hb : 1 ≤ b.length
  ·have hbd : decide ((b.length : Int) ≥ 1) = true := by simp; omega
   have hbd2 : decide (1 ≤ (b.length : Int)) = true := by simp; omega
   by_cases hc : b.length ≤ 200
   ·have hcd : decide ((b.length : Int) ≤ 200) = true := by simp; omega
    by_cases hl : l.length = 0
    ·have HL := Lib.hid hl
     have hz1 : decide (((l.length : Nat) : Int) = 0) = true := decide_eq_true (by omega)
     have hz2 : (((l.length : Nat) : Int) == 0) = true := by rw [beq_iff_eq]; omega
     clear hl
     go_wp2_with (first | (refine wpList_box rfl 26 _ rfl (ndC (_, vb, vk)) rfl ?_; intro g1 w1 hb hx hg; have HB := Lib.hid hb; have HX := Lib.hid hx; have HS1 := Lib.hid (HSL.out.below hx); clear hb hx hg) | (with_reducible refine wpList_loadL (NdL.of_blk HB.out).kind rfl _ rfl rfl ?_) | (with_reducible refine wpList_loadL (NdL.of_blk HB.out).bytes rfl _ rfl rfl ?_) | (with_reducible refine wpList_loadL (NdL.of_blk HB.out).kids rfl _ rfl rfl ?_))
     go_ret
     exact ⟨ret_bool (by rw [alone_3]; have hl := HL.out; cases l <;> simp_all), HX.out⟩
    ·have HL := Lib.hid hl
     have hz1 : decide (((l.length : Nat) : Int) = 0) = false := decide_eq_false (by omega)
     have hz2 : (((l.length : Nat) : Int) == 0) = false := by rw [beq_eq_false_iff_ne]; omega
     clear hl
     go_wp2_with (first | (refine wpList_box rfl 26 _ rfl (ndC (_, vb, vk)) rfl ?_; intro g1 w1 hb hx hg; have HB := Lib.hid hb; have HX := Lib.hid hx; have HS1 := Lib.hid (HSL.out.below hx); clear hb hx hg) | (with_reducible refine wpList_loadL (NdL.of_blk HB.out).kind rfl _ rfl rfl ?_) | (with_reducible refine wpList_loadL (NdL.of_blk HB.out).bytes rfl _ rfl rfl ?_) | (with_reducible refine wpList_loadL (NdL.of_blk HB.out).kids rfl _ rfl rfl ?_))
     go_ret
     exact ⟨ret_bool (by rw [alone_3]; have hl := HL.out; cases l <;> simp_all), HX.out⟩
   ·have hcd : decide ((b.length : Int) ≤ 200) = false := by simp; omega
    go_wp2_with (first | (refine wpList_box rfl 26 _ rfl (ndC (_, vb, vk)) rfl ?_; intro g1 w1 hb hx hg; have HB := Lib.hid hb; have HX := Lib.hid hx; have HS1 := Lib.hid (HSL.out.below hx); clear hb hx hg) | (with_reducible refine wpList_loadL (NdL.of_blk HB.out).kind rfl _ rfl rfl ?_) | (with_reducible refine wpList_loadL (NdL.of_blk HB.out).bytes rfl _ rfl rfl ?_) | (with_reducible refine wpList_loadL (NdL.of_blk HB.out).kids rfl _ rfl rfl ?_))
    go_ret
    exact ⟨ret_bool (by rw [alone_3]; simp [hc]), HX.out⟩
  ·have hbd : decide ((b.length : Int) ≥ 1) = false := by simp; omega
   have hbd2 : decide (1 ≤ (b.length : Int)) = false := by simp; omega
   go_wp2_with (first | (refine wpList_box rfl 26 _ rfl (ndC (_, vb, vk)) rfl ?_; intro g1 w1 hb hx hg; have HB := Lib.hid hb; have HX := Lib.hid hx; have HS1 := Lib.hid (HSL.out.below hx); clear hb hx hg) | (with_reducible refine wpList_loadL (NdL.of_blk HB.out).kind rfl _ rfl rfl ?_) | (with_reducible refine wpList_loadL (NdL.of_blk HB.out).bytes rfl _ rfl rfl ?_) | (with_reducible refine wpList_loadL (NdL.of_blk HB.out).kids rfl _ rfl rfl ?_))
   go_ret
   exact ⟨ret_bool (by rw [alone_3]; simp [hb]), HX.out⟩
 have hk3 : decide (kx = 3) = false := by simpa using h3
 have hq3 : (kx == 3) = false := by simpa using h3
 by_cases h4 : kx = 4
 ·subst h4
  go_wp2_with (first | (refine wpList_box rfl 26 _ rfl (ndC (_, vb, vk)) rfl ?_; intro g1 w1 hb hx hg; have HB := Lib.hid hb; have HX := Lib.hid hx; have HS1 := Lib.hid (HSL.out.below hx); clear hb hx hg) | (with_reducible refine wpList_loadL (NdL.of_blk HB.out).kind rfl _ rfl rfl ?_))
  go_loopw [3] (fun i wr => ∃ q : Nat, q ≤ l.length ∧ q ≤ 201 ∧ i = .int .i64 (q : Int) ∧ named none (l.take q) = true ∧ Blk wr g1 26 (ndC (4, vb, vk)) ∧ Below w.heap.size w wr) (fun i _ => l.length - (intOf i).toNat)
  case atStart => exact ⟨0, by omega, by omega, rfl, rfl, HB.out, HX.out⟩
  case round =>
   obtain ⟨w2, rfl⟩ : ∃ y : World, y = wr := ⟨_, rfl⟩
   obtain ⟨q, hq, hq2, rfl, hnm, hb, hx⟩ := hrel
   have HNM := Lib.hid hnm
   have HB2 := Lib.hid hb
   have HX2 := Lib.hid hx
   have HSX := Lib.hid (HSL.out.below hx)
   clear hnm hb hx
   by_cases hlt : q < l.length
   ·have hd : decide ((q : Int) < (l.length : Int)) = true := by simp; omega
    by_cases hq200 : q ≤ 200
    ·have hd2 : decide ((q : Int) ≤ 200) = true := by simp; omega
     obtain ⟨z, hzk⟩ : ∃ z, l[q]? = some z := ⟨_, List.getElem?_eq_getElem hlt⟩
     obtain ⟨y, hyk, hyz⟩ := HN.out.at_ q z hzk
     obtain ⟨pp, hadr, hle⟩ := kid_at HSX.out q y hyk
     have HY := Lib.hid hle.name
     have HSN := Lib.hid (show named none (l.take (q + 1)) = (named none (l.take q) && nameOk (lastN none (l.take q)) z.1) by rw [take_succ' hzk, named_snoc])
     have HYZ := Lib.hid hyz
     have hyl : y.1.length ≤ 1048576 := by rw [hyz]; exact HLM.out z (List.mem_of_getElem? hzk)
     clear hle hyz hyk hzk
     have HBAD : Hid (nameOk (lastN none (l.take q)) z.1 = false → alone (.mk 4 b l) = false) := Lib.hid (fun h => by rw [alone_4, named_take (k := q + 1) (by rw [HSN.out, h, Bool.and_false]), Bool.and_false])
     have HNX : Hid (nameOk (lastN none (l.take q)) z.1 = true → named none (l.take (q + 1)) = true) := Lib.hid (fun h => by rw [HSN.out, h, HNM.out]; rfl)
     go_wp2_with (first | (with_reducible refine wpList_loadL (NdL.of_blk HB2.out).kids rfl _ rfl rfl ?_))
     cases hnx : isName z.1 with
     | false =>
      have HR := Lib.hid (HBAD.out (by simp [nameOk, hnx]))
      have HC := Lib.hid (fun W => refNameD y.1 (b := false) (by rw [HYZ.out]; exact hnx) hyl W)
      clear hnx
      try simp only [Act.put, List.setIfInBounds_toArray, List.set_cons_succ, List.set_cons_zero]
      refine wp_region_later_lit (by kernel_rfl) (by kernel_rfl) ?_
      repeat (first | go_big_quiet_skip | ((first | (with_reducible refine wpQuiet_loadL (NdL.of_blk HB2.out).kids rfl _ rfl rfl ?_) | (with_reducible refine wpQuiet_loadL HY.out rfl _ rfl rfl ?_)); simp only [Act.put, List.setIfInBounds_toArray, List.set_cons_succ, List.set_cons_zero]) | go_big_quiet_step (first | (go_at_call 68; first | (with_reducible exact Calls.later (HC.out _)))))
      refine wpQuiet_nil ?_
      intro _ hw'
      obtain ⟨x1, rfl⟩ := hw'
      go_wp2_with fail
      go_ret
      exact ⟨ret_bool HR.out.symm, belowThen HX2.out (Nat.le_refl _) x1.h⟩
     | true =>
      have HC := Lib.hid (fun W => refNameD y.1 (b := true) (by rw [HYZ.out]; exact hnx) hyl W)
      by_cases hk0 : q = 0
      ·have hkd : decide (0 < (q : Int)) = false := by simp <;> omega
       have hkd2 : decide (0 < q) = false := by simp <;> omega
       have HG := Lib.hid (HNX.out (by subst hk0; simp [nameOk, hnx, lastN]))
       clear hnx hk0
       try simp only [Act.put, List.setIfInBounds_toArray, List.set_cons_succ, List.set_cons_zero]
       refine wp_region_later_lit (by kernel_rfl) (by kernel_rfl) ?_
       repeat (first | go_big_quiet_skip | ((first | (with_reducible refine wpQuiet_loadL (NdL.of_blk HB2.out).kids rfl _ rfl rfl ?_) | (with_reducible refine wpQuiet_loadL HY.out rfl _ rfl rfl ?_)); simp only [Act.put, List.setIfInBounds_toArray, List.set_cons_succ, List.set_cons_zero]) | go_big_quiet_step (first | (go_at_call 68; first | (with_reducible exact Calls.later (HC.out _)))))
       refine wpQuiet_nil ?_
       intro _ hw'
       obtain ⟨x1, rfl⟩ := hw'
       have HB5 := Lib.hid (HB2.out.below x1.h)
       have hx6 := belowThen HX2.out (Nat.le_refl _) x1.h
       go_wp2_with fail
       go_roundw
       case rel => exact ⟨q + 1, by omega, by omega, by go_num, HG.out, HB5.out, hx6⟩
       case measure => simp [intOf]; omega
      ·have hkd : 0 < q := by omega
       have hkd2 : decide (0 < q) = true := by simpa using hkd
       obtain ⟨u, huk⟩ : ∃ u, l[q - 1]? = some u := ⟨_, List.getElem?_eq_getElem (by omega)⟩
       obtain ⟨s, hsk, hsu⟩ := HN.out.at_ (q - 1) u huk
       obtain ⟨pq, hadq, hlq⟩ := kid_at HSX.out (q - 1) s hsk
       have hlz := lastN_take hkd huk
       have HQ := Lib.hid hlq.name
       have hwr := i64_predK q (by omega) (by omega)
       cases hbl : Op.bytesLess u.1 z.1 with
       | false =>
        have HR := Lib.hid (HBAD.out (by rw [hlz]; simp [nameOk, hbl]))
        have HGE := Lib.hid (show (!Op.bytesLess s.1 y.1) = true by rw [hsu, HYZ.out, hbl]; rfl)
        clear hnx hbl hlq hsk hsu hlz huk
        try simp only [Act.put, List.setIfInBounds_toArray, List.set_cons_succ, List.set_cons_zero]
        refine wp_region_later_lit (by kernel_rfl) (by kernel_rfl) ?_
        repeat (first | go_big_quiet_skip | ((first | (with_reducible refine wpQuiet_loadL (NdL.of_blk HB2.out).kids rfl _ rfl rfl ?_) | (with_reducible refine wpQuiet_loadL HY.out rfl _ rfl rfl ?_) | (with_reducible refine wpQuiet_loadL HQ.out rfl _ rfl rfl ?_) | (with_reducible refine wpQuiet_geqS rfl rfl rfl rfl true HGE.out ?_)); simp only [Act.put, List.setIfInBounds_toArray, List.set_cons_succ, List.set_cons_zero]) | go_big_quiet_step (first | (go_at_call 68; first | (with_reducible exact Calls.later (HC.out _)))))
        refine wpQuiet_nil ?_
        intro _ hw'
        obtain ⟨x1, rfl⟩ := hw'
        go_wp2_with fail
        go_ret
        exact ⟨ret_bool HR.out.symm, belowThen HX2.out (Nat.le_refl _) x1.h⟩
       | true =>
        have HG := Lib.hid (HNX.out (by rw [hlz]; simp [nameOk, hnx, hbl]))
        have HGE := Lib.hid (show (!Op.bytesLess s.1 y.1) = false by rw [hsu, HYZ.out, hbl]; rfl)
        clear hnx hbl hlq hsk hsu hlz huk
        try simp only [Act.put, List.setIfInBounds_toArray, List.set_cons_succ, List.set_cons_zero]
        refine wp_region_later_lit (by kernel_rfl) (by kernel_rfl) ?_
        repeat (first | go_big_quiet_skip | ((first | (with_reducible refine wpQuiet_loadL (NdL.of_blk HB2.out).kids rfl _ rfl rfl ?_) | (with_reducible refine wpQuiet_loadL HY.out rfl _ rfl rfl ?_) | (with_reducible refine wpQuiet_loadL HQ.out rfl _ rfl rfl ?_) | (with_reducible refine wpQuiet_geqS rfl rfl rfl rfl false HGE.out ?_)); simp only [Act.put, List.setIfInBounds_toArray, List.set_cons_succ, List.set_cons_zero]) | go_big_quiet_step (first | (go_at_call 68; first | (with_reducible exact Calls.later (HC.out _)))))
        refine wpQuiet_nil ?_
        intro _ hw'
        obtain ⟨x1, rfl⟩ := hw'
        have HB5 := Lib.hid (HB2.out.below x1.h)
        have hx6 := belowThen HX2.out (Nat.le_refl _) x1.h
        go_wp2_with fail
        go_roundw
        case rel => exact ⟨q + 1, by omega, by omega, by go_num, HG.out, HB5.out, hx6⟩
        case measure => simp [intOf]; omega
    ·have hd2 : decide ((q : Int) ≤ 200) = false := by simp; omega
     by_cases hb0 : b.length = 0
     ·have HB0 := Lib.hid hb0
      have hz1 : decide (((b.length : Nat) : Int) = 0) = true := decide_eq_true (by omega)
      have hz2 : (((b.length : Nat) : Int) == 0) = true := by rw [beq_iff_eq]; omega
      have hl2 : decide ((l.length : Int) ≤ 200) = false := by simp; omega
      clear hb0
      go_wp2_with (first | (with_reducible refine wpList_loadL (NdL.of_blk HB2.out).bytes rfl _ rfl rfl ?_) | (with_reducible refine wpList_loadL (NdL.of_blk HB2.out).kids rfl _ rfl rfl ?_))
      go_ret
      exact ⟨ret_bool (by rw [alone_4]; have : ¬ l.length ≤ 200 := (by omega); simp [this]), HX2.out⟩
     ·have HB0 := Lib.hid hb0
      have hz1 : decide (((b.length : Nat) : Int) = 0) = false := decide_eq_false (by omega)
      have hz2 : (((b.length : Nat) : Int) == 0) = false := by rw [beq_eq_false_iff_ne]; omega
      have hl2 : decide ((l.length : Int) ≤ 200) = false := by simp; omega
      clear hb0
      go_wp2_with (first | (with_reducible refine wpList_loadL (NdL.of_blk HB2.out).bytes rfl _ rfl rfl ?_) | (with_reducible refine wpList_loadL (NdL.of_blk HB2.out).kids rfl _ rfl rfl ?_))
      go_ret
      exact ⟨ret_bool (by rw [alone_4]; have : ¬ l.length ≤ 200 := (by omega); simp [this]), HX2.out⟩
   ·obtain rfl : q = l.length := by omega
    have hd1 : decide (((l.length : Nat) : Int) < ((l.length : Nat) : Int)) = false := by simp
    have HR := Lib.hid (show named none l = true by have := HNM.out; rwa [List.take_length] at this)
    by_cases hb0 : b.length = 0
    ·have HB0 := Lib.hid hb0
     have hz1 : decide (((b.length : Nat) : Int) = 0) = true := decide_eq_true (by omega)
     have hz2 : (((b.length : Nat) : Int) == 0) = true := by rw [beq_iff_eq]; omega
     clear hb0
     by_cases hl2 : l.length ≤ 200
     ·have hl3 : decide ((l.length : Int) ≤ 200) = true := by simp; omega
      go_wp2_with (first | (with_reducible refine wpList_loadL (NdL.of_blk HB2.out).bytes rfl _ rfl rfl ?_) | (with_reducible refine wpList_loadL (NdL.of_blk HB2.out).kids rfl _ rfl rfl ?_))
      go_ret
      exact ⟨ret_bool (by rw [alone_4, HR.out]; have h0 := HB0.out; cases b <;> simp_all), HX2.out⟩
     ·have hl3 : decide ((l.length : Int) ≤ 200) = false := by simp; omega
      go_wp2_with (first | (with_reducible refine wpList_loadL (NdL.of_blk HB2.out).bytes rfl _ rfl rfl ?_) | (with_reducible refine wpList_loadL (NdL.of_blk HB2.out).kids rfl _ rfl rfl ?_))
      go_ret
      exact ⟨ret_bool (by rw [alone_4, HR.out]; have h0 := HB0.out; cases b <;> simp_all), HX2.out⟩
    ·have HB0 := Lib.hid hb0
     have hz1 : decide (((b.length : Nat) : Int) = 0) = false := decide_eq_false (by omega)
     have hz2 : (((b.length : Nat) : Int) == 0) = false := by rw [beq_eq_false_iff_ne]; omega
     clear hb0
     go_wp2_with (first | (with_reducible refine wpList_loadL (NdL.of_blk HB2.out).bytes rfl _ rfl rfl ?_) | (with_reducible refine wpList_loadL (NdL.of_blk HB2.out).kids rfl _ rfl rfl ?_))
     go_ret
     exact ⟨ret_bool (by rw [alone_4, HR.out]; have h0 := HB0.out; cases b <;> simp_all), HX2.out⟩
 have hk4 : decide (kx = 4) = false := by simpa using h4
 have hq4 : (kx == 4) = false := by simpa using h4
 go_wp2_with (first | (refine wpList_box rfl 26 _ rfl (ndC (_, vb, vk)) rfl ?_; intro g1 w1 hb hx hg; have HB := Lib.hid hb; have HX := Lib.hid hx; have HS1 := Lib.hid (HSL.out.below hx); clear hb hx hg) | (with_reducible refine wpList_loadL (NdL.of_blk HB.out).kind rfl _ rfl rfl ?_) | (with_reducible refine wpList_loadL (NdL.of_blk HB.out).bytes rfl _ rfl rfl ?_) | (with_reducible refine wpList_loadL (NdL.of_blk HB.out).kids rfl _ rfl rfl ?_))
 go_ret
 exact ⟨ret_bool (alone_no h1 h2 h3 h4).symm, HX.out⟩
end Go.Proofs.YtfiadgdinhmgbaaDoor
