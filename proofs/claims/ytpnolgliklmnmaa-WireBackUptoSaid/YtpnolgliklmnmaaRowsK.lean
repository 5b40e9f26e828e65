/- spencekit.SameRows, BytesOf, Pick. -/
import Derived.Test.YtpnolgliklmnmaaWire
import Derived.Test.YtpnolgliklmnmaaSameB
namespace Go.Proofs.Ytpnolgliklmnmaa
open Go.RowKit Pl Go.Agg
set_option maxRecDepth 100000 in
set_option maxHeartbeats 1000000 in
theorem sameRows_any (v u : Value) (vs us : List SV) (a b : List (List UInt8)) (_ha : a.length ≤ 1048576) (hb : b.length ≤ 1048576) (hax : ∀ l ∈ a, l.length ≤ 1048576) (hbx : ∀ l ∈ b, l.length ≤ 1048576) (w : World) (he : BBAt w v vs) (hf : BBAt w u us) (hra : RowsIn w vs a) (hrb : RowsIn w us b) :
    Calls Try.prog 16 #[v, u] w fun e w' => e = .returned (.bool (decide (a = b))) ∧ Below w.heap.size w w' := by
  have hlv := fun W => bb_len he W
  have hlu := fun W => bb_len hf W
  rw [hra.len] at hlv
  rw [hrb.len] at hlu
  have HE := Lib.hid he
  have HF := Lib.hid hf
  clear he hf
  by_cases hlen : a.length = b.length
  · have hne : ((a.length : Int) != (b.length : Int)) = false := by simp [hlen]
    have HLEN := Lib.hid hlen
    rw [hlen] at hlv hne
    clear hlen
    go_enter Try.func16, Try.ntmps16
    go_wp2_with fail
    go_loopw [5] (fun i wr => ∃ k : Nat, k ≤ b.length ∧ i = .int .i64 k ∧ a.take k = b.take k ∧ Below w.heap.size w wr) (fun i _ => b.length - (intOf i).toNat)
    case atStart => exact ⟨0, by omega, rfl, rfl, Below.refl _ _⟩
    case round =>
      obtain ⟨w1, rfl⟩ : ∃ w1 : World, w1 = wr := ⟨_, rfl⟩
      obtain ⟨k, hk, rfl, htk, hw⟩ := hrel
      have HTK := Lib.hid htk
      clear htk
      by_cases hlt : k < b.length
      · obtain ⟨y, hyk⟩ : ∃ y, b[k]? = some y := ⟨_, List.getElem?_eq_getElem hlt⟩
        obtain ⟨x, hxk⟩ : ∃ x, a[k]? = some x := ⟨_, List.getElem?_eq_getElem (by rw [HLEN.out]; exact hlt)⟩
        obtain ⟨s, hsk⟩ : ∃ s, vs[k]? = some s := ⟨_, List.getElem?_eq_getElem (by rw [hra.len, HLEN.out]; exact hlt)⟩
        obtain ⟨t, htk2⟩ : ∃ s, us[k]? = some s := ⟨_, List.getElem?_eq_getElem (by rw [hrb.len]; exact hlt)⟩
        obtain ⟨p, hadr, hld⟩ := bb_at (HE.out.below hw) k s hsk
        obtain ⟨q, hadq, hlq⟩ := bb_at (HF.out.below hw) k t htk2
        have HLX := Lib.hid hld
        have HLY := Lib.hid hlq
        have hx8 := hax x (List.mem_of_getElem? hxk)
        have hy8 := hbx y (List.mem_of_getElem? hyk)
        have HSB := Lib.hid (fun z : Later w1 => sameBytes_any s.1 t.1 x y hx8 hy8 z.w (((hra.row k s x hsk hxk).below hw).below z.h) (((hrb.row k t y htk2 hyk).below hw).below z.h))
        clear hld hlq hsk htk2
        have HX := Lib.hid hxk
        have HY := Lib.hid hyk
        clear hxk hyk
        by_cases hxy : x = y
        · have HXY := Lib.hid hxy
          have HSB2 := Lib.hid (fun z : Later w1 => by have := HSB.out z; rwa [show decide (x = y) = true by simp [hxy]] at this)
          clear hxy
          go_wp2_with fail
          try simp only [Act.put, List.setIfInBounds_toArray, List.set_cons_succ, List.set_cons_zero]
          refine Agg.wp_region_later_lit (by kernel_rfl) (by kernel_rfl) ?_
          repeat (first | go_big_quiet_skip | ((first | (with_reducible refine Agg.wpQuiet_loadL HLX.out rfl _ rfl rfl ?_) | (with_reducible refine Agg.wpQuiet_loadL HLY.out rfl _ rfl rfl ?_)); simp only [Act.put, List.setIfInBounds_toArray, List.set_cons_succ, List.set_cons_zero]) | go_big_quiet_step ((go_at_call 15; exact Agg.Calls.later (HSB2.out _))))
          refine wpQuiet_nil ?_
          intro _ hw'
          obtain ⟨x1, rfl⟩ := hw'
          go_wp2_with fail
          go_roundw
          case rel => exact ⟨k + 1, by omega, by go_num, take_eq_succ HX.out HY.out HTK.out HXY.out, Agg.belowThen hw (Nat.le_refl _) x1.h⟩
          case measure => simp [intOf]; omega
        · have HXY := Lib.hid hxy
          have HSB2 := Lib.hid (fun z : Later w1 => by have := HSB.out z; rwa [show decide (x = y) = false by simp [hxy]] at this)
          clear hxy
          go_wp2_with fail
          try simp only [Act.put, List.setIfInBounds_toArray, List.set_cons_succ, List.set_cons_zero]
          refine Agg.wp_region_later_lit (by kernel_rfl) (by kernel_rfl) ?_
          repeat (first | go_big_quiet_skip | ((first | (with_reducible refine Agg.wpQuiet_loadL HLX.out rfl _ rfl rfl ?_) | (with_reducible refine Agg.wpQuiet_loadL HLY.out rfl _ rfl rfl ?_)); simp only [Act.put, List.setIfInBounds_toArray, List.set_cons_succ, List.set_cons_zero]) | go_big_quiet_step ((go_at_call 15; exact Agg.Calls.later (HSB2.out _))))
          refine wpQuiet_nil ?_
          intro _ hw'
          obtain ⟨x1, rfl⟩ := hw'
          have hres : decide (a = b) = false := by simpa using ne_at HX.out HY.out HXY.out
          have HR := Lib.hid hres
          clear hres
          go_wp2_with fail
          go_ret
          exact ⟨ret_bool HR.out.symm, Agg.belowThen hw (Nat.le_refl _) x1.h⟩
      · obtain rfl : k = b.length := by omega
        have hres : decide (a = b) = true := by
          have := HTK.out
          rw [List.take_length, List.take_of_length_le (by rw [HLEN.out]; omega)] at this
          simpa using this
        have HR := Lib.hid hres
        clear hres
        go_wp2_with fail
        go_ret
        exact ⟨ret_bool HR.out.symm, hw⟩
  · have hne : ((a.length : Int) != (b.length : Int)) = true := by rw [bne_iff_ne]; omega
    have hres : decide (a = b) = false := by simp; exact fun e => hlen (by rw [e])
    have HR := Lib.hid hres
    clear hres
    go_enter Try.func16, Try.ntmps16
    go_wp2_with fail
    go_ret
    exact ⟨ret_bool HR.out.symm, Below.refl _ _⟩

/-! BytesOf -/
def bytesGo (m : Nat) : Nat → List (List UInt8) → Nat
  | n, [] => n
  | n, x :: l => if n ≤ m then bytesGo m (n + 1 + x.length) l else n
def bytesSz (l : List (List UInt8)) : Nat := (l.map fun x => 1 + x.length).sum
theorem bytesGo_le (m : Nat) (l : List (List UInt8)) (n : Nat) : bytesGo m n l ≤ n + bytesSz l := by
  induction l generalizing n with
  | nil => simp [bytesGo]
  | cons x l ih =>
    unfold bytesGo
    split
    · have := ih (n + 1 + x.length)
      simp only [bytesSz, List.map_cons, List.sum_cons] at this ⊢; omega
    · simp only [bytesSz, List.map_cons, List.sum_cons]; omega
theorem bytesGo_all (m : Nat) (l : List (List UInt8)) (n : Nat) (h : bytesGo m n l ≤ m) : n + bytesSz l ≤ m := by
  induction l generalizing n with
  | nil => simpa [bytesGo, bytesSz] using h
  | cons x l ih =>
    unfold bytesGo at h
    split at h
    · have := ih _ h
      simp only [bytesSz, List.map_cons, List.sum_cons] at this ⊢; omega
    · omega
theorem drop_at' {α : Type} {l : List α} {k : Nat} {x : α} (h : l[k]? = some x) : l.drop k = x :: l.drop (k + 1) := by
  obtain ⟨hk, rfl⟩ := List.getElem?_eq_some_iff.1 h
  exact List.drop_eq_getElem_cons hk
theorem ret_nat' {a b : Nat} (h : a = b) : Ending.returned (.int .i64 (a : Int)) = .returned (.int .i64 (b : Int)) := by rw [h]
set_option maxRecDepth 100000 in
set_option maxHeartbeats 1000000 in
theorem bytesOf_any (v : Value) (vs : List SV) (ls : List (List UInt8)) (m : Nat) (hm : m ≤ 1048576) (hsz : bytesSz ls ≤ 4194304) (hll : ls.length ≤ 4194304) (w : World) (he : BBAt w v vs) (hr : RowsIn w vs ls) :
    Calls Try.prog 7 #[v, .int .i64 (m : Int)] w fun e w' => e = .returned (.int .i64 (bytesGo m 0 ls : Int)) ∧ w' = w := by
  have hlv := fun W => bb_len he W
  rw [hr.len] at hlv
  have HE := Lib.hid he
  have HR := Lib.hid hr
  clear he hr
  go_enter Try.func7, Try.ntmps7
  go_wp2_with fail
  go_loopw [5, 6] (fun n i wr => ∃ (k N : Nat), k ≤ ls.length ∧ i = .int .i64 (k : Int) ∧ n = .int .i64 (N : Int) ∧ bytesGo m N (ls.drop k) = bytesGo m 0 ls ∧ N + bytesSz (ls.drop k) ≤ 4194304 ∧ wr = w) (fun _ i _ => ls.length - (intOf i).toNat)
  case atStart => exact ⟨0, 0, by omega, rfl, rfl, by simp, by simpa using hsz, rfl⟩
  case round =>
    obtain ⟨k, N, hk, rfl, rfl, hgo, hbd, rfl⟩ := hrel
    by_cases hlt : k < ls.length ∧ N ≤ m
    · obtain ⟨hlt, hNm⟩ := hlt
      obtain ⟨x, hxk⟩ : ∃ x, ls[k]? = some x := ⟨_, List.getElem?_eq_getElem hlt⟩
      obtain ⟨s, hsk⟩ : ∃ s, vs[k]? = some s := ⟨_, List.getElem?_eq_getElem (by rw [HR.out.len]; exact hlt)⟩
      rw [drop_at' hxk] at hgo hbd
      have hgo2 : bytesGo m (N + 1 + x.length) (ls.drop (k + 1)) = bytesGo m 0 ls := by rw [← hgo, bytesGo, if_pos hNm]
      have hbd2 : N + 1 + x.length + bytesSz (ls.drop (k + 1)) ≤ 4194304 := by simp only [bytesSz, List.map_cons, List.sum_cons] at hbd ⊢; omega
      have hN2 : N + 1 + x.length ≤ 4194304 := by omega
      have HG := Lib.hid hgo2
      have HBD := Lib.hid hbd2
      clear hgo hbd hgo2 hbd2
      have hls := fun W => bytes_len (HR.out.row k s x hsk hxk) W
      obtain ⟨q, hadr, hld⟩ := bb_at HE.out k s hsk
      have HL := Lib.hid hld
      have hd1 : decide (k < ls.length) = true := by simpa using hlt
      have hd2 : decide (N ≤ m) = true := by simpa using hNm
      clear hld hsk hxk
      go_wp2_with (first | (with_reducible refine Agg.wpList_loadL HL.out rfl _ rfl rfl ?_))
      go_roundw
      case rel => exact ⟨k + 1, N + 1 + x.length, by omega, by go_num, by go_num, HG.out, HBD.out, trivial⟩
      case measure => simp [intOf]; omega
    · have hres : bytesGo m 0 ls = N := by
        rw [← hgo]
        by_cases hk2 : k < ls.length
        · obtain ⟨x, hxk⟩ : ∃ x, ls[k]? = some x := ⟨_, List.getElem?_eq_getElem hk2⟩
          rw [drop_at' hxk, bytesGo, if_neg (fun h => hlt ⟨hk2, h⟩)]
        · rw [List.drop_eq_nil_of_le (by omega)]; rfl
      have HRES := Lib.hid hres
      clear hres hgo
      by_cases hk2 : k < ls.length
      · have hNm : ¬ N ≤ m := fun h => hlt ⟨hk2, h⟩
        have hd1 : decide (k < ls.length) = true := by simpa using hk2
        have hd2 : decide (N ≤ m) = false := by simpa using hNm
        clear hlt
        go_wp2_with fail
        go_ret
        exact ⟨ret_nat' HRES.out.symm, rfl⟩
      · have hd1 : decide (k < ls.length) = false := by simpa using hk2
        clear hlt
        go_wp2_with fail
        go_ret
        exact ⟨ret_nat' HRES.out.symm, rfl⟩
/-! Pick -/
theorem tmod_gt (x : Int) (n : Nat) (_h : 1 ≤ n) : -(n : Int) < x.tmod n := by
  rcases Int.le_total 0 x with h0 | h0
  · have := Int.tmod_nonneg (n : Int) h0; omega
  · have := Int.tmod_lt_of_pos (-x) (show (0 : Int) < n by omega)
    rw [Int.neg_tmod] at this; omega
set_option maxRecDepth 100000 in
set_option maxHeartbeats 1000000 in
theorem pick_any (x : Int) (n : Nat) (h1 : 1 ≤ n) (hn : n ≤ 1073741824) (w : World) :
    Calls Try.prog 20 #[.int .i64 x, .int .i64 (n : Int)] w fun e w' => (∃ k : Nat, k < n ∧ e = .returned (.int .i64 (k : Int))) ∧ w' = w := by
  have hm1 := Int.tmod_lt_of_pos x (show (0 : Int) < (n : Int) by omega)
  have hm2 := tmod_gt x n h1
  have hI : ¬ (n : Int) < 1 := by omega
  have hne : ¬ (n : Int) = 0 := by omega
  obtain ⟨r, hr⟩ : ∃ r, x.tmod (n : Int) = r := ⟨_, rfl⟩
  rw [hr] at hm1 hm2
  go_enter Try.func20, Try.ntmps20
  by_cases h0 : r < 0
  · obtain ⟨k, hk⟩ : ∃ k : Nat, r + n = (k : Int) := ⟨(r + n).toNat, by omega⟩
    go_wp2_with fail
    go_ret
    exact ⟨⟨k, by omega, by go_num⟩, rfl⟩
  · obtain ⟨k, rfl⟩ : ∃ k : Nat, r = (k : Int) := ⟨r.toNat, by omega⟩
    go_wp2_with fail
    go_ret
    exact ⟨⟨k, by omega, rfl⟩, rfl⟩
end Go.Proofs.Ytpnolgliklmnmaa
