/- wire.Put at the example's request; spencelaw28.awake. (Several texts in one.) -/
import Derived.Test.YtpnolgliklmnmaaGreatQAC
import Derived.Test.YtpnolgliklmnmaaGreatQAF
import Derived.Test.YtpnolgliklmnmaaGreatQAE
import Derived.BigQuiet
/-! spencekit.SameBytes. -/
namespace Go.Proofs.YtpnolgliklmnmaaGreat
open Go.RowKit Pl Go.Agg
theorem take_eq_succ {α : Type} {a b : List α} {k : Nat} {x y : α} (hx : a[k]? = some x) (hy : b[k]? = some y) (h : a.take k = b.take k) (hxy : x = y) : a.take (k + 1) = b.take (k + 1) := by
  rw [List.take_add_one, List.take_add_one, hx, hy, h, hxy]
theorem ne_at {α : Type} {a b : List α} {k : Nat} {x y : α} (hx : a[k]? = some x) (hy : b[k]? = some y) (hxy : x ≠ y) : a ≠ b := by
  rintro rfl
  exact hxy (Option.some.inj (hx.symm.trans hy))
theorem i64_nat {a b : Nat} (h : a = b) : Value.int .i64 (a : Int) = .int .i64 (b : Int) := by rw [h]
set_option maxRecDepth 100000 in
set_option maxHeartbeats 1000000 in
theorem sameBytes_any (v u : Value) (a b : List UInt8) (_ha : a.length ≤ 1048576) (hb : b.length ≤ 1048576) (w : World) (he : BytesAt w v a) (hf : BytesAt w u b) :
    Calls Tryz.prog 15 #[v, u] w fun e w' => e = .returned (.bool (decide (a = b))) ∧ Below w.heap.size w w' := by
  have hlv := fun W => bytes_len he W
  have hlu := fun W => bytes_len hf W
  have HE := Lib.hid he
  have HF := Lib.hid hf
  clear he hf
  by_cases hlen : a.length = b.length
  · have hne : ((a.length : Int) != (b.length : Int)) = false := by simp [hlen]
    have HLEN := Lib.hid hlen
    rw [hlen] at hlv hne
    clear hlen
    go_enter Tryz.func15, Tryz.ntmps15
    go_wp2_with fail
    go_loopw [5] (fun i wr => ∃ k : Nat, k ≤ b.length ∧ i = .int .i64 k ∧ a.take k = b.take k ∧ Below w.heap.size w wr) (fun i _ => b.length - (intOf i).toNat)
    case atStart => exact ⟨0, by omega, rfl, rfl, Below.refl _ _⟩
    case round =>
      obtain ⟨w1, rfl⟩ : ∃ w1 : World, w1 = wr := ⟨_, rfl⟩
      obtain ⟨k, hk, rfl, htk, hw⟩ := hrel
      have HTK := Lib.hid htk
      clear htk
      by_cases hlt : k < b.length
      · obtain ⟨y, hyk⟩ : ∃ y, b[k]? = some y := ⟨_, List.getElem?_eq_getElem hlt⟩
        obtain ⟨x, hxk⟩ : ∃ x, a[k]? = some x := ⟨_, List.getElem?_eq_getElem (by rw [HLEN.out]; exact hlt)⟩
        obtain ⟨p, hadr, hld⟩ := byte_at (HE.out.below hw) k x hxk
        obtain ⟨q, hadq, hlq⟩ := byte_at (HF.out.below hw) k y hyk
        have HLX := Lib.hid hld
        have HLY := Lib.hid hlq
        clear hld hlq
        have HX := Lib.hid hxk
        have HY := Lib.hid hyk
        clear hxk hyk
        by_cases hxy : x = y
        · have HXY := Lib.hid hxy
          have hq : ((x.toNat : Int) != (y.toNat : Int)) = false := by simp [hxy]
          clear hxy
          go_wp2_with fail
          try simp only [Act.put, List.setIfInBounds_toArray, List.set_cons_succ, List.set_cons_zero]
          refine Agg.wp_region_later_lit (by kernel_rfl) (by kernel_rfl) ?_
          repeat (first | go_big_quiet_skip | ((first | (with_reducible refine Agg.wpQuiet_loadL HLX.out rfl _ rfl rfl ?_) | (with_reducible refine Agg.wpQuiet_loadL HLY.out rfl _ rfl rfl ?_)); simp only [Act.put, List.setIfInBounds_toArray, List.set_cons_succ, List.set_cons_zero]) | go_big_quiet_step (fail))
          refine wpQuiet_nil ?_
          intro _ hw'
          obtain ⟨x1, rfl⟩ := hw'
          go_wp2_with fail
          go_roundw
          case rel => exact ⟨k + 1, by omega, by go_num, take_eq_succ HX.out HY.out HTK.out HXY.out, Agg.belowThen hw (Nat.le_refl _) x1.h⟩
          case measure => simp [intOf]; omega
        · have HXY := Lib.hid hxy
          have hq : ((x.toNat : Int) != (y.toNat : Int)) = true := by rw [bne_iff_ne]; intro e; exact hxy (UInt8.toNat_inj.1 (by omega))
          clear hxy
          go_wp2_with fail
          try simp only [Act.put, List.setIfInBounds_toArray, List.set_cons_succ, List.set_cons_zero]
          refine Agg.wp_region_later_lit (by kernel_rfl) (by kernel_rfl) ?_
          repeat (first | go_big_quiet_skip | ((first | (with_reducible refine Agg.wpQuiet_loadL HLX.out rfl _ rfl rfl ?_) | (with_reducible refine Agg.wpQuiet_loadL HLY.out rfl _ rfl rfl ?_)); simp only [Act.put, List.setIfInBounds_toArray, List.set_cons_succ, List.set_cons_zero]) | go_big_quiet_step (fail))
          refine wpQuiet_nil ?_
          intro _ hw'
          obtain ⟨x1, rfl⟩ := hw'
          have hres : decide (a = b) = false := by simpa using ne_at HX.out HY.out HXY.out
          have HR := Lib.hid hres
          clear hres
          go_wp2_with fail
          go_ret
          exact ⟨ret_bool HR.out.symm, Agg.belowThen hw (Nat.le_refl _) x1.h⟩
      · obtain rfl : k = b.length := by omega
        have hres : decide (a = b) = true := by
          have := HTK.out
          rw [List.take_length, List.take_of_length_le (by rw [HLEN.out]; omega)] at this
          simpa using this
        have HR := Lib.hid hres
        clear hres
        go_wp2_with fail
        go_ret
        exact ⟨ret_bool HR.out.symm, hw⟩
  · have hne : ((a.length : Int) != (b.length : Int)) = true := by rw [bne_iff_ne]; omega
    have hres : decide (a = b) = false := by simp; exact fun e => hlen (by rw [e])
    have HR := Lib.hid hres
    clear hres
    go_enter Tryz.func15, Tryz.ntmps15
    go_wp2_with fail
    go_ret
    exact ⟨ret_bool HR.out.symm, Below.refl _ _⟩
end Go.Proofs.YtpnolgliklmnmaaGreat
/-! spencekit.SameRows, BytesOf, Pick. -/
namespace Go.Proofs.YtpnolgliklmnmaaGreat
open Go.RowKit Pl Go.Agg
set_option maxRecDepth 100000 in
set_option maxHeartbeats 1000000 in
theorem sameRows_any (v u : Value) (vs us : List SV) (a b : List (List UInt8)) (_ha : a.length ≤ 1048576) (hb : b.length ≤ 1048576) (hax : ∀ l ∈ a, l.length ≤ 1048576) (hbx : ∀ l ∈ b, l.length ≤ 1048576) (w : World) (he : BBAt w v vs) (hf : BBAt w u us) (hra : RowsIn w vs a) (hrb : RowsIn w us b) :
    Calls Tryz.prog 122 #[v, u] w fun e w' => e = .returned (.bool (decide (a = b))) ∧ Below w.heap.size w w' := by
  have hlv := fun W => bb_len he W
  have hlu := fun W => bb_len hf W
  rw [hra.len] at hlv
  rw [hrb.len] at hlu
  have HE := Lib.hid he
  have HF := Lib.hid hf
  clear he hf
  by_cases hlen : a.length = b.length
  · have hne : ((a.length : Int) != (b.length : Int)) = false := by simp [hlen]
    have HLEN := Lib.hid hlen
    rw [hlen] at hlv hne
    clear hlen
    go_enter Tryz.func122, Tryz.ntmps122
    go_wp2_with fail
    go_loopw [5] (fun i wr => ∃ k : Nat, k ≤ b.length ∧ i = .int .i64 k ∧ a.take k = b.take k ∧ Below w.heap.size w wr) (fun i _ => b.length - (intOf i).toNat)
    case atStart => exact ⟨0, by omega, rfl, rfl, Below.refl _ _⟩
    case round =>
      obtain ⟨w1, rfl⟩ : ∃ w1 : World, w1 = wr := ⟨_, rfl⟩
      obtain ⟨k, hk, rfl, htk, hw⟩ := hrel
      have HTK := Lib.hid htk
      clear htk
      by_cases hlt : k < b.length
      · obtain ⟨y, hyk⟩ : ∃ y, b[k]? = some y := ⟨_, List.getElem?_eq_getElem hlt⟩
        obtain ⟨x, hxk⟩ : ∃ x, a[k]? = some x := ⟨_, List.getElem?_eq_getElem (by rw [HLEN.out]; exact hlt)⟩
        obtain ⟨s, hsk⟩ : ∃ s, vs[k]? = some s := ⟨_, List.getElem?_eq_getElem (by rw [hra.len, HLEN.out]; exact hlt)⟩
        obtain ⟨t, htk2⟩ : ∃ s, us[k]? = some s := ⟨_, List.getElem?_eq_getElem (by rw [hrb.len]; exact hlt)⟩
        obtain ⟨p, hadr, hld⟩ := bb_at (HE.out.below hw) k s hsk
        obtain ⟨q, hadq, hlq⟩ := bb_at (HF.out.below hw) k t htk2
        have HLX := Lib.hid hld
        have HLY := Lib.hid hlq
        have hx8 := hax x (List.mem_of_getElem? hxk)
        have hy8 := hbx y (List.mem_of_getElem? hyk)
        have HSB := Lib.hid (fun z : Later w1 => sameBytes_any s.1 t.1 x y hx8 hy8 z.w (((hra.row k s x hsk hxk).below hw).below z.h) (((hrb.row k t y htk2 hyk).below hw).below z.h))
        clear hld hlq hsk htk2
        have HX := Lib.hid hxk
        have HY := Lib.hid hyk
        clear hxk hyk
        by_cases hxy : x = y
        · have HXY := Lib.hid hxy
          have HSB2 := Lib.hid (fun z : Later w1 => by have := HSB.out z; rwa [show decide (x = y) = true by simp [hxy]] at this)
          clear hxy
          go_wp2_with fail
          try simp only [Act.put, List.setIfInBounds_toArray, List.set_cons_succ, List.set_cons_zero]
          refine Agg.wp_region_later_lit (by kernel_rfl) (by kernel_rfl) ?_
          repeat (first | go_big_quiet_skip | ((first | (with_reducible refine Agg.wpQuiet_loadL HLX.out rfl _ rfl rfl ?_) | (with_reducible refine Agg.wpQuiet_loadL HLY.out rfl _ rfl rfl ?_)); simp only [Act.put, List.setIfInBounds_toArray, List.set_cons_succ, List.set_cons_zero]) | go_big_quiet_step ((go_at_call 15; exact Agg.Calls.later (HSB2.out _))))
          refine wpQuiet_nil ?_
          intro _ hw'
          obtain ⟨x1, rfl⟩ := hw'
          go_wp2_with fail
          go_roundw
          case rel => exact ⟨k + 1, by omega, by go_num, take_eq_succ HX.out HY.out HTK.out HXY.out, Agg.belowThen hw (Nat.le_refl _) x1.h⟩
          case measure => simp [intOf]; omega
        · have HXY := Lib.hid hxy
          have HSB2 := Lib.hid (fun z : Later w1 => by have := HSB.out z; rwa [show decide (x = y) = false by simp [hxy]] at this)
          clear hxy
          go_wp2_with fail
          try simp only [Act.put, List.setIfInBounds_toArray, List.set_cons_succ, List.set_cons_zero]
          refine Agg.wp_region_later_lit (by kernel_rfl) (by kernel_rfl) ?_
          repeat (first | go_big_quiet_skip | ((first | (with_reducible refine Agg.wpQuiet_loadL HLX.out rfl _ rfl rfl ?_) | (with_reducible refine Agg.wpQuiet_loadL HLY.out rfl _ rfl rfl ?_)); simp only [Act.put, List.setIfInBounds_toArray, List.set_cons_succ, List.set_cons_zero]) | go_big_quiet_step ((go_at_call 15; exact Agg.Calls.later (HSB2.out _))))
          refine wpQuiet_nil ?_
          intro _ hw'
          obtain ⟨x1, rfl⟩ := hw'
          have hres : decide (a = b) = false := by simpa using ne_at HX.out HY.out HXY.out
          have HR := Lib.hid hres
          clear hres
          go_wp2_with fail
          go_ret
          exact ⟨ret_bool HR.out.symm, Agg.belowThen hw (Nat.le_refl _) x1.h⟩
      · obtain rfl : k = b.length := by omega
        have hres : decide (a = b) = true := by
          have := HTK.out
          rw [List.take_length, List.take_of_length_le (by rw [HLEN.out]; omega)] at this
          simpa using this
        have HR := Lib.hid hres
        clear hres
        go_wp2_with fail
        go_ret
        exact ⟨ret_bool HR.out.symm, hw⟩
  · have hne : ((a.length : Int) != (b.length : Int)) = true := by rw [bne_iff_ne]; omega
    have hres : decide (a = b) = false := by simp; exact fun e => hlen (by rw [e])
    have HR := Lib.hid hres
    clear hres
    go_enter Tryz.func122, Tryz.ntmps122
    go_wp2_with fail
    go_ret
    exact ⟨ret_bool HR.out.symm, Below.refl _ _⟩

/-! BytesOf -/
def bytesGo (m : Nat) : Nat → List (List UInt8) → Nat
  | n, [] => n
  | n, x :: l => if n ≤ m then bytesGo m (n + 1 + x.length) l else n
def bytesSz (l : List (List UInt8)) : Nat := (l.map fun x => 1 + x.length).sum
theorem bytesGo_le (m : Nat) (l : List (List UInt8)) (n : Nat) : bytesGo m n l ≤ n + bytesSz l := by
  induction l generalizing n with
  | nil => simp [bytesGo]
  | cons x l ih =>
    unfold bytesGo
    split
    · have := ih (n + 1 + x.length)
      simp only [bytesSz, List.map_cons, List.sum_cons] at this ⊢; omega
    · simp only [bytesSz, List.map_cons, List.sum_cons]; omega
theorem bytesGo_all (m : Nat) (l : List (List UInt8)) (n : Nat) (h : bytesGo m n l ≤ m) : n + bytesSz l ≤ m := by
  induction l generalizing n with
  | nil => simpa [bytesGo, bytesSz] using h
  | cons x l ih =>
    unfold bytesGo at h
    split at h
    · have := ih _ h
      simp only [bytesSz, List.map_cons, List.sum_cons] at this ⊢; omega
    · omega
theorem drop_at' {α : Type} {l : List α} {k : Nat} {x : α} (h : l[k]? = some x) : l.drop k = x :: l.drop (k + 1) := by
  obtain ⟨hk, rfl⟩ := List.getElem?_eq_some_iff.1 h
  exact List.drop_eq_getElem_cons hk
theorem ret_nat' {a b : Nat} (h : a = b) : Ending.returned (.int .i64 (a : Int)) = .returned (.int .i64 (b : Int)) := by rw [h]
set_option maxRecDepth 100000 in
set_option maxHeartbeats 1000000 in
theorem bytesOf_any (v : Value) (vs : List SV) (ls : List (List UInt8)) (m : Nat) (hm : m ≤ 1048576) (hsz : bytesSz ls ≤ 4194304) (hll : ls.length ≤ 4194304) (w : World) (he : BBAt w v vs) (hr : RowsIn w vs ls) :
    Calls Tryz.prog 119 #[v, .int .i64 (m : Int)] w fun e w' => e = .returned (.int .i64 (bytesGo m 0 ls : Int)) ∧ w' = w := by
  have hlv := fun W => bb_len he W
  rw [hr.len] at hlv
  have HE := Lib.hid he
  have HR := Lib.hid hr
  clear he hr
  go_enter Tryz.func119, Tryz.ntmps119
  go_wp2_with fail
  go_loopw [5, 6] (fun n i wr => ∃ (k N : Nat), k ≤ ls.length ∧ i = .int .i64 (k : Int) ∧ n = .int .i64 (N : Int) ∧ bytesGo m N (ls.drop k) = bytesGo m 0 ls ∧ N + bytesSz (ls.drop k) ≤ 4194304 ∧ wr = w) (fun _ i _ => ls.length - (intOf i).toNat)
  case atStart => exact ⟨0, 0, by omega, rfl, rfl, by simp, by simpa using hsz, rfl⟩
  case round =>
    obtain ⟨k, N, hk, rfl, rfl, hgo, hbd, rfl⟩ := hrel
    by_cases hlt : k < ls.length ∧ N ≤ m
    · obtain ⟨hlt, hNm⟩ := hlt
      obtain ⟨x, hxk⟩ : ∃ x, ls[k]? = some x := ⟨_, List.getElem?_eq_getElem hlt⟩
      obtain ⟨s, hsk⟩ : ∃ s, vs[k]? = some s := ⟨_, List.getElem?_eq_getElem (by rw [HR.out.len]; exact hlt)⟩
      rw [drop_at' hxk] at hgo hbd
      have hgo2 : bytesGo m (N + 1 + x.length) (ls.drop (k + 1)) = bytesGo m 0 ls := by rw [← hgo, bytesGo, if_pos hNm]
      have hbd2 : N + 1 + x.length + bytesSz (ls.drop (k + 1)) ≤ 4194304 := by simp only [bytesSz, List.map_cons, List.sum_cons] at hbd ⊢; omega
      have hN2 : N + 1 + x.length ≤ 4194304 := by omega
      have HG := Lib.hid hgo2
      have HBD := Lib.hid hbd2
      clear hgo hbd hgo2 hbd2
      have hls := fun W => bytes_len (HR.out.row k s x hsk hxk) W
      obtain ⟨q, hadr, hld⟩ := bb_at HE.out k s hsk
      have HL := Lib.hid hld
      have hd1 : decide (k < ls.length) = true := by simpa using hlt
      have hd2 : decide (N ≤ m) = true := by simpa using hNm
      clear hld hsk hxk
      go_wp2_with (first | (with_reducible refine Agg.wpList_loadL HL.out rfl _ rfl rfl ?_))
      go_roundw
      case rel => exact ⟨k + 1, N + 1 + x.length, by omega, by go_num, by go_num, HG.out, HBD.out, trivial⟩
      case measure => simp [intOf]; omega
    · have hres : bytesGo m 0 ls = N := by
        rw [← hgo]
        by_cases hk2 : k < ls.length
        · obtain ⟨x, hxk⟩ : ∃ x, ls[k]? = some x := ⟨_, List.getElem?_eq_getElem hk2⟩
          rw [drop_at' hxk, bytesGo, if_neg (fun h => hlt ⟨hk2, h⟩)]
        · rw [List.drop_eq_nil_of_le (by omega)]; rfl
      have HRES := Lib.hid hres
      clear hres hgo
      by_cases hk2 : k < ls.length
      · have hNm : ¬ N ≤ m := fun h => hlt ⟨hk2, h⟩
        have hd1 : decide (k < ls.length) = true := by simpa using hk2
        have hd2 : decide (N ≤ m) = false := by simpa using hNm
        clear hlt
        go_wp2_with fail
        go_ret
        exact ⟨ret_nat' HRES.out.symm, rfl⟩
      · have hd1 : decide (k < ls.length) = false := by simpa using hk2
        clear hlt
        go_wp2_with fail
        go_ret
        exact ⟨ret_nat' HRES.out.symm, rfl⟩
end Go.Proofs.YtpnolgliklmnmaaGreat
/-! base.Name and spenceref03.Name: whether a text is a name. -/
namespace Go.Proofs.YtpnolgliklmnmaaGreat
open Go.RowKit Pl
theorem isName_bad (s : List UInt8) (k : Nat) (hk : k < s.length) (h : sgn s[k] = false) : isName s = false := by
  have : s.all sgn = false := by
    rw [List.all_eq_false]; exact ⟨s[k], List.getElem_mem hk, by simp [h]⟩
  simp [isName, this]
theorem isName_good (s : List UInt8) (h : ∀ k (hk : k < s.length), sgn s[k] = true) : isName s = ((s.length != 0) && decide (s.length ≤ 24) && (s.getD 0 0 != 46)) := by
  have : s.all sgn = true := by
    rw [List.all_eq_true]; intro x hx; obtain ⟨k, hk, rfl⟩ := List.getElem_of_mem hx; exact h k hk
  simp [isName, this]
/-- the range over the text: its next sign -/
theorem next_low (w : World) (s : List UInt8) (k : Nat) (ty : TypeId) (hk : k < s.length) (ha : s[k].toNat < 128) :
    (Instr.next (.pointer (some ⟨w.heap.size, 0, none⟩)) true ty).run Tryz.prog (w.iter ⟨s.toArray⟩ k) = .ok (.tuple #[.bool true, .int .i64 (k : Int), .int .i32 (s[k].toNat : Int)]) (w.iter ⟨s.toArray⟩ (k + 1)) := by
  have hs : k < (⟨s.toArray⟩ : ByteArray).size := by rw [Agg.bytes_size]; exact hk
  have he : (⟨s.toArray⟩ : ByteArray)[k]'hs = s[k] := by simp [ByteArray.getElem_eq_getElem_data]
  have := run_next_ascii (P := Tryz.prog) w ⟨s.toArray⟩ k ty hs (by rw [he]; exact ha)
  rw [he] at this
  exact this
theorem next_high (w : World) (s : List UInt8) (k : Nat) (ty : TypeId) (hk : k < s.length) (ha : 128 ≤ s[k].toNat) :
    ∃ (r : Int) (k' : Nat), 128 ≤ r ∧ k < k' ∧ (Instr.next (.pointer (some ⟨w.heap.size, 0, none⟩)) true ty).run Tryz.prog (w.iter ⟨s.toArray⟩ k) = .ok (.tuple #[.bool true, .int .i64 (k : Int), .int .i32 r]) (w.iter ⟨s.toArray⟩ k') := by
  have hs : k < (⟨s.toArray⟩ : ByteArray).size := by rw [Agg.bytes_size]; exact hk
  have he : (⟨s.toArray⟩ : ByteArray)[k]'hs = s[k] := by simp [ByteArray.getElem_eq_getElem_data]
  obtain ⟨h1, h2⟩ := decode_high ⟨s.toArray⟩ k hs (by rw [he]; exact ha)
  exact ⟨_, _, by exact_mod_cast h1, by omega, run_next_any (P := Tryz.prog) w ⟨s.toArray⟩ k ty hs⟩
theorem next_end (w : World) (s : List UInt8) (ty : TypeId) :
    (Instr.next (.pointer (some ⟨w.heap.size, 0, none⟩)) true ty).run Tryz.prog (w.iter ⟨s.toArray⟩ s.length) = .ok (.tuple #[.bool false]) (w.iter ⟨s.toArray⟩ s.length) :=
  run_next_end (P := Tryz.prog) w ⟨s.toArray⟩ s.length ty (by rw [Agg.bytes_size]; omega)
theorem signR_byte (c : UInt8) (hc : c.toNat < 128) : signR (c.toNat : Int) = sgn c := by
  unfold signR
  rw [if_pos (by omega)]
  exact signN_sgn c hc
theorem below_iter (w : World) (s : ByteArray) (k : Nat) : Below w.heap.size w (w.iter s k) := (Below.refl _ _).alloc (Nat.le_refl _) _
set_option maxRecDepth 100000 in
set_option maxHeartbeats 1000000 in
theorem name_any (s : List UInt8) (w : World) :
    Calls Tryz.prog 65 #[.string ⟨s.toArray⟩] w fun e w' => e = .returned (.bool (isName s)) ∧ Below w.heap.size w w' := by
  go_enter Tryz.func65, Tryz.ntmps65
  go_wp2_with fail
  go_loopw [4] (fun _ wr => ∃ k : Nat, k ≤ s.length ∧ wr = w.iter ⟨s.toArray⟩ k ∧ ∀ j (hj : j < s.length), j < k → sgn s[j] = true) (fun _ wr => s.length - wr.iterPos w.heap.size)
  case atStart => exact ⟨0, by omega, rfl, by intros; omega⟩
  case round =>
    obtain ⟨k, hk, rfl, hg⟩ := hrel
    have HG := Lib.hid hg
    clear hg
    by_cases hlt : k < s.length
    · by_cases hc : s[k].toNat < 128
      · have hn := next_low w s k 0 hlt hc
        cases hsg : sgn s[k] with
        | true =>
          go_wp2_with (go_at_call 93; refine (sign_any _ (by omega) _).mono ?_; rintro e w' ⟨rfl, rfl⟩; rw [signR_byte _ hc, hsg])
          go_roundw
          case rel => exact ⟨k + 1, by omega, rfl, fun j hj h => by
            rcases Nat.lt_or_ge j k with h' | h'
            · exact HG.out j hj h'
            · obtain rfl : j = k := by omega
              exact hsg⟩
          case measure => simp; omega
        | false =>
          go_wp2_with (go_at_call 93; refine (sign_any _ (by omega) _).mono ?_; rintro e w' ⟨rfl, rfl⟩; rw [signR_byte _ hc, hsg])
          go_ret
          exact ⟨ret_bool (isName_bad s k hlt hsg).symm, below_iter _ _ _⟩
      · obtain ⟨r, k', hr, hk', hn⟩ := next_high w s k 0 hlt (by omega)
        have hsg : sgn s[k] = false := by
          cases h : sgn s[k] with
          | true => exact absurd (sgn_small _ h) hc
          | false => rfl
        have HS := Lib.hid hsg
        clear hsg
        go_wp2_with (go_at_call 93; refine (sign_high _ hr _).mono ?_; rintro e w' ⟨rfl, rfl⟩)
        go_ret
        exact ⟨ret_bool (isName_bad s k hlt HS.out).symm, below_iter _ _ _⟩
    · obtain rfl : k = s.length := by omega
      have hn := next_end w s 0
      have hgood := isName_good s (fun j hj => HG.out j hj hj)
      have HI := Lib.hid hgood
      clear hgood
      cases s with
      | nil =>
        simp only [List.length_nil] at hn
        go_wp2_with fail
        go_ret
        exact ⟨ret_bool (by rw [HI.out]; rfl), below_iter _ _ _⟩
      | cons c l =>
        have hix : ∀ w, (Instr.index 9 (.string ⟨(c :: l).toArray⟩) (.int .i64 0)).run Tryz.prog w = .ok (.int .u8 (c.toNat : Int)) w := fun w => Agg.run_index_str (i := 0) w Tryz.underlying9 rfl
        simp only [List.length_cons] at hn
        go_wp2_with fail
        all_goals go_ret
        all_goals refine ⟨ret_bool ?_, below_iter _ _ _⟩
        all_goals rw [HI.out]
        · have h24 : (l.length : Int) + 1 ≤ 24 := by assumption
          have e : (((c.toNat : Int)) != 46) = (c != 46) := by
            rw [Bool.eq_iff_iff]; simp only [bne_iff_ne, ne_eq]; rw [← UInt8.toNat_inj]; simp; omega
          simp [e, show l.length + 1 ≤ 24 by omega]
        · have h24 : 24 < (l.length : Int) + 1 := by assumption
          simp [show ¬ l.length + 1 ≤ 24 by omega]
end Go.Proofs.YtpnolgliklmnmaaGreat
/-! spencelaw28.awake: the request of its example. -/
namespace Go.Proofs.YtpnolgliklmnmaaGreat
open Go.RowKit Pl Go.Agg
def hz20 : Array Value := Array.replicate 20 (.int .u8 0)
def pz21 : Array Value := hz20 ++ #[.string ⟨#[]⟩]
def rq5 : Array Value := #[.int .i64 7, .int .i64 2, .int .i64 0, .string ⟨#[]⟩, .slice none 0 0]
def rqC : Array Value := rq5 ++ (pz21 ++ hz20)
theorem rq_path (j : Nat) (v : Value) (h : pz21[j]? = some v) : rqC[5 + j]? = some v := by
  have hj := (Array.getElem?_eq_some_iff.1 h).1
  unfold rqC
  rw [Array.getElem?_append_right (by simp [rq5]), show 5 + j - rq5.size = j by simp [rq5], Array.getElem?_append_left hj]
  exact h
theorem rq_class (j : Nat) (v : Value) (h : hz20[j]? = some v) : rqC[26 + j]? = some v := by
  unfold rqC
  rw [Array.getElem?_append_right (by simp [rq5]; omega), show 26 + j - rq5.size = 21 + j by simp [rq5]; omega, Array.getElem?_append_right (by simp [pz21, hz20]), show 21 + j - pz21.size = j by simp [pz21, hz20]]
  exact h
structure RqL (w : World) (g : Nat) : Prop where
  all : LoadsL Tryz.prog w 29 (some ⟨g, 0, none⟩) (.agg rqC)
  kind : LoadsL Tryz.prog w 22 (some ⟨g, 0, none⟩) (.int .i64 7)
  user : LoadsL Tryz.prog w 3 (some ⟨g, 1, none⟩) (.int .i64 2)
  who : LoadsL Tryz.prog w 3 (some ⟨g, 2, none⟩) (.int .i64 0)
  name : LoadsL Tryz.prog w 9 (some ⟨g, 3, none⟩) (.string ⟨#[]⟩)
  bytes : LoadsL Tryz.prog w 23 (some ⟨g, 4, none⟩) (.slice none 0 0)
  path : LoadsL Tryz.prog w 27 (some ⟨g, 5, none⟩) (.agg pz21)
  cls : LoadsL Tryz.prog w 25 (some ⟨g, 26, none⟩) (.agg hz20)
theorem RqL.of_blk {w : World} {g : Nat} (h : Blk w g 29 rqC) : RqL w g where
  all := h.loads (by kernel_rfl : Tryz.prog.underlying 29 = some (.struct (Tryz.prog.fieldsOf 29))) rfl (by kernel_rfl)
  kind := h.one 0 rfl Tryz.underlying22 rfl
  user := h.one 1 rfl Tryz.underlying3 rfl
  who := h.one 2 rfl Tryz.underlying3 rfl
  name := h.one 3 rfl Tryz.underlying9 rfl
  bytes := h.one 4 rfl (by kernel_rfl : Tryz.prog.underlying 23 = some (.slice 5)) rfl
  path := h.sub 5 pz21 rq_path (by kernel_rfl : Tryz.prog.underlying 27 = some (.struct (Tryz.prog.fieldsOf 27))) rfl (by kernel_rfl)
  cls := h.sub 26 hz20 rq_class Tryz.underlying25 rfl (by kernel_rfl)
theorem RqL.below {w w' : World} {g : Nat} (h : RqL w g) (hb : Below w.heap.size w w') : RqL w' g := ⟨h.all.below hb, h.kind.below hb, h.user.below hb, h.who.below hb, h.name.below hb, h.bytes.below hb, h.path.below hb, h.cls.below hb⟩
theorem build_rq (w : World) : (Instr.build 29 #[(0, .int .i64 7), (1, .int .i64 2)]).run Tryz.prog w = .ok (.agg rqC) w := by kernel_rfl
theorem build_pz (w : World) : (Instr.build 27 #[]).run Tryz.prog w = .ok (.agg pz21) w := by kernel_rfl
theorem build_hz (w : World) : (Instr.build 25 #[]).run Tryz.prog w = .ok (.agg hz20) w := by kernel_rfl
theorem neq_pz (w : World) : (binOp .neq 27 (.agg pz21) (.agg pz21)).run Tryz.prog w = .ok (.bool false) w := by kernel_rfl
theorem neq_hz (w : World) : (binOp .neq 25 (.agg hz20) (.agg hz20)).run Tryz.prog w = .ok (.bool false) w := by kernel_rfl
set_option maxRecDepth 100000 in
theorem parts7 (w : World) : Calls Tryz.prog 37 #[.int .i64 7] w fun e w' => e = .returned (.int .u8 0) ∧ w' = w := by
  go_enter Tryz.func37, Tryz.ntmps37
  go_wp2_with fail
  go_ret
  exact ⟨rfl, rfl⟩
set_option maxRecDepth 100000 in
theorem has0 (c : Nat) (hc : c < 256) (w : World) : Calls Tryz.prog 39 #[.int .u8 0, .int .u8 (c : Int)] w fun e w' => e = .returned (.bool false) ∧ w' = w := by
  have h : ∀ m : Nat, m < 256 → bits .and .u8 0 (m : Int) = 0 := by decide +kernel
  have hb := h c hc
  clear h
  go_enter Tryz.func39, Tryz.ntmps39
  go_wp2_with fail
  go_ret
  exact ⟨rfl, rfl⟩
set_option maxRecDepth 100000 in
theorem within_go (n lo hi : Int) (w : World) : Calls Tryz.prog 64 #[.int .i64 n, .int .i64 lo, .int .i64 hi] w fun e w' => e = .returned (.bool (decide (lo ≤ n) && decide (n ≤ hi))) ∧ w' = w := by
  by_cases h1 : lo ≤ n
  · by_cases h2 : n ≤ hi
    · go_enter Tryz.func64, Tryz.ntmps64
      go_wp2_with fail
      go_ret
      exact ⟨by simp [h1, h2], rfl⟩
    · go_enter Tryz.func64, Tryz.ntmps64
      go_wp2_with fail
      go_ret
      exact ⟨by simp [h2], rfl⟩
  · go_enter Tryz.func64, Tryz.ntmps64
    go_wp2_with fail
    go_ret
    exact ⟨by simp; omega, rfl⟩
theorem within_kind (w : World) : Calls Tryz.prog 64 #[.int .i64 7, .int .i64 1, .int .i64 10] w fun e w' => e = .returned (.bool true) ∧ w' = w := within_go 7 1 10 w
theorem within_user (w : World) : Calls Tryz.prog 64 #[.int .i64 2, .int .i64 1, .int .i64 8] w fun e w' => e = .returned (.bool true) ∧ w' = w := within_go 2 1 8 w
theorem within_ff (w : World) : Calls Tryz.prog 64 #[.int .i64 0, .int .i64 1, .int .i64 16] w fun e w' => e = .returned (.bool false) ∧ w' = w := within_go 0 1 16 w
set_option maxRecDepth 100000 in
theorem most7 (w : World) : Calls Tryz.prog 57 #[.int .i64 7] w fun e w' => e = .returned (.int .i64 0) ∧ w' = w := by
  go_enter Tryz.func57, Tryz.ntmps57
  go_wp2_with fail
  refine (parts7 w).mono ?_
  rintro e w1 ⟨rfl, rfl⟩
  go_wp2_with fail
  refine (has0 32 (by omega) w1).mono ?_
  rintro e w2 ⟨rfl, rfl⟩
  go_wp2_with fail
  go_ret
  exact ⟨rfl, rfl⟩
theorem sameBelow {f : FuncId} {args : Array Value} {w : World} {v : Value} (h : Calls Tryz.prog f args w fun e w' => e = .returned v ∧ w' = w) : Calls Tryz.prog f args w fun e w' => e = .returned v ∧ Below w.heap.size w w' :=
  h.mono fun _ _ ⟨he, hw⟩ => ⟨he, hw ▸ Below.refl _ _⟩
set_option maxRecDepth 100000 in
set_option maxHeartbeats 2000000 in
theorem right7 (w : World) : Calls Tryz.prog 13 #[.agg rqC] w fun e w' => e = .returned (.bool true) ∧ Below w.heap.size w w' := by
  have hlen := fun W => bytes_len (SliceOf.nil (E := EB) w none 0) W
  have hnm : ∀ W, Calls Tryz.prog 65 #[.string ⟨#[]⟩] W fun e w' => e = .returned (.bool false) ∧ Below W.heap.size W w' := fun W => name_any [] W
  have HNM := Lib.hid hnm
  clear hnm
  go_enter Tryz.func13, Tryz.ntmps13
  go_wp2_with (first | (with_reducible refine Agg.wpList_box rfl 29 _ rfl (rqC) rfl ?_; intro g w1 hb hx1 hg) | (with_reducible refine Agg.wpList_loadL (RqL.of_blk hb).kind rfl _ rfl rfl ?_))
  refine (parts7 _).mono ?_
  rintro e w2 ⟨rfl, rfl⟩
  have HL := Lib.hid (RqL.of_blk hb)
  have HW := Lib.hid hx1
  clear hb hx1 hg
  go_wp2_with (first | (with_reducible refine Agg.wpList_loadL HL.out.kind rfl _ rfl rfl ?_))
  refine (within_kind _).mono ?_
  rintro e w3 ⟨rfl, rfl⟩
  go_wp2_with (first | (with_reducible refine Agg.wpList_loadL HL.out.user rfl _ rfl rfl ?_))
  refine (within_user _).mono ?_
  rintro e w4 ⟨rfl, rfl⟩
  go_wp2_with fail
  try simp only [Act.put, List.setIfInBounds_toArray, List.set_cons_succ, List.set_cons_zero]
  refine Agg.wp_region_later_lit (by kernel_rfl) (by kernel_rfl) ?_
  repeat (first | go_big_quiet_skip | ((first | (with_reducible refine Agg.wpQuiet_loadL HL.out.who rfl _ rfl rfl ?_)); simp only [Act.put, List.setIfInBounds_toArray, List.set_cons_succ, List.set_cons_zero]) | go_big_quiet_step ((first | (go_at_call 39; first | exact Agg.Calls.later (sameBelow (has0 1 (by omega) _)) | exact Agg.Calls.later (sameBelow (has0 2 (by omega) _)) | exact Agg.Calls.later (sameBelow (has0 12 (by omega) _))) | (go_at_call 64; exact Agg.Calls.later (sameBelow (within_ff _))) | (go_at_call 65; exact Agg.Calls.later (HNM.out _)) | (go_at_call 57; exact Agg.Calls.later (sameBelow (most7 _))))))
  refine wpQuiet_nil ?_
  intro _ hw'
  obtain ⟨x1, rfl⟩ := hw'
  have HL := Lib.hid (HL.out.below x1.h)
  have HW := Lib.hid (Agg.belowThen HW.out (Nat.le_refl _) x1.h)
  generalize x1.w = v4 at *
  go_wp2_with fail
  refine (has0 1 (by omega) _).mono ?_
  rintro e w6 ⟨rfl, rfl⟩
  go_wp2_with (first | (with_reducible refine Agg.wpList_loadL HL.out.who rfl _ rfl rfl ?_))
  try simp only [Act.put, List.setIfInBounds_toArray, List.set_cons_succ, List.set_cons_zero]
  refine Agg.wp_region_later_lit (by kernel_rfl) (by kernel_rfl) ?_
  repeat (first | go_big_quiet_skip | ((first | (with_reducible refine Agg.wpQuiet_loadL HL.out.name rfl _ rfl rfl ?_)); simp only [Act.put, List.setIfInBounds_toArray, List.set_cons_succ, List.set_cons_zero]) | go_big_quiet_step ((first | (go_at_call 39; first | exact Agg.Calls.later (sameBelow (has0 1 (by omega) _)) | exact Agg.Calls.later (sameBelow (has0 2 (by omega) _)) | exact Agg.Calls.later (sameBelow (has0 12 (by omega) _))) | (go_at_call 64; exact Agg.Calls.later (sameBelow (within_ff _))) | (go_at_call 65; exact Agg.Calls.later (HNM.out _)) | (go_at_call 57; exact Agg.Calls.later (sameBelow (most7 _))))))
  refine wpQuiet_nil ?_
  intro _ hw'
  obtain ⟨x1, rfl⟩ := hw'
  have HL := Lib.hid (HL.out.below x1.h)
  have HW := Lib.hid (Agg.belowThen HW.out (Nat.le_refl _) x1.h)
  generalize x1.w = v6 at *
  go_wp2_with fail
  refine (has0 2 (by omega) _).mono ?_
  rintro e w8 ⟨rfl, rfl⟩
  go_wp2_with (first | (with_reducible refine Agg.wpList_loadL HL.out.name rfl _ rfl rfl ?_))
  refine (has0 12 (by omega) _).mono ?_
  rintro e w9 ⟨rfl, rfl⟩
  go_wp2_with (first | (with_reducible refine Agg.wpList_loadL HL.out.path rfl _ rfl rfl ?_) | (with_reducible refine Agg.wpList_build0 27 rfl rfl (.agg pz21) build_pz ?_) | (with_reducible refine Agg.wpList_neqw 27 27 _ _ rfl rfl pz21 pz21 rfl rfl false (by kernel_rfl) neq_pz ?_))
  try simp only [Act.put, List.setIfInBounds_toArray, List.set_cons_succ, List.set_cons_zero]
  refine Agg.wp_region_later_lit (by kernel_rfl) (by kernel_rfl) ?_
  repeat (first | go_big_quiet_skip | ((first | (with_reducible refine Agg.wpQuiet_loadL HL.out.path rfl _ rfl rfl ?_)); simp only [Act.put, List.setIfInBounds_toArray, List.set_cons_succ, List.set_cons_zero]) | go_big_quiet_step ((first | (go_at_call 39; first | exact Agg.Calls.later (sameBelow (has0 1 (by omega) _)) | exact Agg.Calls.later (sameBelow (has0 2 (by omega) _)) | exact Agg.Calls.later (sameBelow (has0 12 (by omega) _))) | (go_at_call 64; exact Agg.Calls.later (sameBelow (within_ff _))) | (go_at_call 65; exact Agg.Calls.later (HNM.out _)) | (go_at_call 57; exact Agg.Calls.later (sameBelow (most7 _))))))
  refine wpQuiet_nil ?_
  intro _ hw'
  obtain ⟨x1, rfl⟩ := hw'
  have HL := Lib.hid (HL.out.below x1.h)
  have HW := Lib.hid (Agg.belowThen HW.out (Nat.le_refl _) x1.h)
  generalize x1.w = v9 at *
  go_wp2_with fail
  refine (has0 16 (by omega) _).mono ?_
  rintro e w11 ⟨rfl, rfl⟩
  go_wp2_with (first | (with_reducible refine Agg.wpList_loadL HL.out.cls rfl _ rfl rfl ?_) | (with_reducible refine Agg.wpList_build0 25 rfl rfl (.agg hz20) build_hz ?_) | (with_reducible refine Agg.wpList_neqw 25 25 _ _ rfl rfl hz20 hz20 rfl rfl false (by kernel_rfl) neq_hz ?_))
  try simp only [Act.put, List.setIfInBounds_toArray, List.set_cons_succ, List.set_cons_zero]
  refine Agg.wp_region_later_lit (by kernel_rfl) (by kernel_rfl) ?_
  repeat (first | go_big_quiet_skip | ((first | (with_reducible refine Agg.wpQuiet_loadL HL.out.bytes rfl _ rfl rfl ?_) | (with_reducible refine Agg.wpQuiet_loadL HL.out.kind rfl _ rfl rfl ?_)); simp only [Act.put, List.setIfInBounds_toArray, List.set_cons_succ, List.set_cons_zero]) | go_big_quiet_step ((first | (go_at_call 39; first | exact Agg.Calls.later (sameBelow (has0 1 (by omega) _)) | exact Agg.Calls.later (sameBelow (has0 2 (by omega) _)) | exact Agg.Calls.later (sameBelow (has0 12 (by omega) _))) | (go_at_call 64; exact Agg.Calls.later (sameBelow (within_ff _))) | (go_at_call 65; exact Agg.Calls.later (HNM.out _)) | (go_at_call 57; exact Agg.Calls.later (sameBelow (most7 _))))))
  refine wpQuiet_nil ?_
  intro _ hw'
  obtain ⟨x1, rfl⟩ := hw'
  have HL := Lib.hid (HL.out.below x1.h)
  have HW := Lib.hid (Agg.belowThen HW.out (Nat.le_refl _) x1.h)
  generalize x1.w = v11 at *
  go_wp2_with fail
  go_ret
  exact ⟨rfl, HW.out⟩
end Go.Proofs.YtpnolgliklmnmaaGreat
/-! wire.Put at the example's request; spencelaw28.awake. -/
namespace Go.Agg
open Go.RowKit
section
variable {P : Program} {ops : Array Oper} {rest : List Oper} {o : Oper} {a : Act} {w : World} {Q : Exit → Act → World → Prop} {α : Type} {E : Elem P α} {v : Value} {l : List α}
theorem wpList_slice2O (hg : Region.wanted o (yielded ops a.tmps) = true) (x y : Operand) (ho : o.op = .buildSlice E.st 2 #[(0, x), (1, y)]) (vx vy : α) (hx : a.eval x = E.val vx) (hy : a.eval y = E.val vy)
    (h : ∀ v' w', SliceOf E w' v' [vx, vy] → (∀ k, v'.ownBlock = some k → w.heap.size ≤ k) → Below w.heap.size w w' → wpList P ops Q rest (a.put o.dst v') w') : wpList P ops Q (o :: rest) a w :=
  wpList_valw hg (v := .slice (some ⟨w.heap.size, 0, none⟩) 2 2) (w' := w.alloc (.cells ((E.val vx).cells ++ (E.val vy).cells) E.ty)) (by simp [execOp, ho, hx, hy, run_slice_two])
    (h _ _ (slice_of_block2 (Blk.new w E.ty _)) (fun k hk => by simp only [Value.ownBlock, Option.some.injEq] at hk; omega) ((Below.refl _ _).alloc (Nat.le_refl _) _))
theorem wpList_appendR (hg : o.guard = none) (s x : Operand) (ho : o.op = .call { callee := .builtin .append, args := #[s, x], argTypes := #[E.st, E.st] }) (vx : Value) (hs : a.eval s = v) (hx : a.eval x = vx) (m : List α)
    (hr : RoomN E w v l) (hm : SliceOf E w vx m) (h63 : l.length + m.length ≤ 1099511627776 / 8) (hby : E.bytes ≤ 1000)
    (h : ∀ v' w', SliceOf E w' v' (l ++ m) → SliceOf E w' v l → Only (fun b => v.ownBlock = some b) w w' → wpList P ops Q rest (a.put o.dst v') w') : wpList P ops Q (o :: rest) a w := by
  obtain ⟨v', w', hrun, h1, h2, h3, _, _⟩ := run_append_room hr vx m hm h63 hby o.type
  refine wpList_val hg (v := v') (w' := w') ?_ (h v' w' h1.slice h2.slice h3)
  simp [execOp, ho, resolve, invoke, builtin, hs, hx, hrun]
theorem SliceOf.of_cells {g : Nat} {cs : Array Value} {l : List α} (h : Blk w g E.ty cs) (hc : cs.toList = E.flat l) : SliceOf E w (.slice (some ⟨g, 0, none⟩) l.length l.length) l :=
  .inr ⟨_, _, rfl, h.lt, fun j u hj => by rw [← hc] at hj; rw [add_plain, Nat.zero_add, h.cell, ← Array.getElem?_toList]; exact hj⟩
end
end Go.Agg
namespace Go.Proofs.YtpnolgliklmnmaaGreat
open Go.RowKit Pl Go.Agg
section
variable {ops : Array Oper} {rest : List Oper} {o : Oper} {a : Act} {w : World} {Q : Exit → Act → World → Prop}
theorem wpList_slice3w (hg : Region.wanted o (yielded ops a.tmps) = true) (x y z : Operand) (ho : o.op = .buildSlice 23 3 #[(0, x), (1, y), (2, z)]) (p q r : UInt8) (hx : a.eval x = EB.val p) (hy : a.eval y = EB.val q) (hz : a.eval z = EB.val r)
    (h : ∀ v' w', BytesAt w' v' [p, q, r] → Below w.heap.size w w' → wpList Tryz.prog ops Q rest (a.put o.dst v') w') : wpList Tryz.prog ops Q (o :: rest) a w :=
  wpList_valw hg (v := .slice (some ⟨w.heap.size, 0, none⟩) 3 3) (w' := w.alloc (.cells #[EB.val p, EB.val q, EB.val r] 5)) (by
    have hb : (Instr.buildSlice 23 3 #[(0, EB.val p), (1, EB.val q), (2, EB.val r)]).run Tryz.prog w = .ok (.slice (some ⟨w.heap.size, 0, none⟩) 3 3) (w.alloc (.cells #[EB.val p, EB.val q, EB.val r] 5)) := by kernel_rfl
    simp [execOp, ho, hx, hy, hz, hb])
    (h _ _ (SliceOf.of_cells (l := [p, q, r]) (Blk.new w _ _) (by simp [Elem.flat, Elem.cs]; rfl)) ((Below.refl _ _).alloc (Nat.le_refl _) _))
end
theorem enc7 : encN 7 = [7] := encN_lt (by omega)
theorem enc2 : encN 2 = [2] := encN_lt (by omega)
set_option maxRecDepth 100000 in
set_option maxHeartbeats 2000000 in
theorem put7 (w : World) : Calls Tryz.prog 9 #[.agg rqC] w fun e w' => ∃ v', e = .returned (.tuple #[v', .int .i64 0]) ∧ Own EB w.heap.size w' v' [7, 2] ∧ Below w.heap.size w w' := by
  have HBLD := Lib.hid (fun W => (by kernel_rfl : (Instr.build 71 #[]).run Tryz.prog W = .ok (.agg (mkC (.slice none 0 0))) W))
  go_enter Tryz.func9, Tryz.ntmps9
  go_wp2_with (first | (with_reducible refine Agg.wpList_box rfl 29 _ rfl (rqC) rfl ?_; intro g w1 hb hx1 hg) | (with_reducible refine Agg.wpList_loadL (RqL.of_blk hb).all rfl _ rfl rfl ?_))
  have HL := Lib.hid (RqL.of_blk hb)
  refine (right7 _).mono ?_
  rintro e w2 ⟨rfl, hx2⟩
  have HW := Lib.hid (Agg.belowThen hx1 (Nat.le_refl _) hx2)
  have HL := Lib.hid (HL.out.below hx2)
  clear hb hx1 hx2 hg
  go_wp2_with (first | (with_reducible refine Agg.wpList_loadL HL.out.kind rfl _ rfl rfl ?_))
  refine (parts7 _).mono ?_
  rintro e w3 ⟨rfl, rfl⟩
  have hsz := HW.out.size
  go_wp2_with (first | (with_reducible refine Agg.wpList_build0 71 rfl rfl (.agg (mkC (.slice none 0 0))) HBLD.out ?_) | (with_reducible refine Agg.wpList_box rfl 71 _ rfl (mkC (.slice none 0 0)) rfl ?_; intro g4 w4 hb4 hx4 hg4; have hlt4 := hb4.lt; have HB4 := Lib.hid hb4; have HX4 := Lib.hid hx4; have HL4 := Lib.hid (HL.out.below hx4); clear hb4 hx4) | (with_reducible refine Agg.wpList_loadL HL4.out.kind rfl _ rfl rfl ?_) | (with_reducible refine Agg.wpList_loadL HL4.out.user rfl _ rfl rfl ?_) | (refine Agg.wpList_slice2O (E := EI) rfl _ _ rfl 7 2 rfl rfl ?_; intro xs w5 hxs hown5 hx5; have HXS := Lib.hid hxs; have HX5 := Lib.hid hx5; have HOW := Lib.hid hown5; clear hxs hx5 hown5))
  have hm5 : MkV g4 w5 (.slice none 0 0) [] := ⟨HB4.out.below HX5.out, Own.nil _ _ _⟩
  have hno : ∀ k, (Value.slice none 0 0).ownBlock ≠ some k := fun k h => by simp [Value.ownBlock] at h
  refine (num_any g4 _ xs [7, 2] [] w5 (by simp) (by simp) (by simp) (Off.behind (w0 := w4) HXS.out HOW.out hlt4 (fun k hk => absurd hk (hno k))) hm5).mono ?_
  rintro e w6 ⟨rfl, v6, hm6, hs6⟩
  have h6 := hm5.stepBelow hs6
  have h36 : Below w3.heap.size w3 w6 := (Agg.belowThen HX4.out (Nat.le_refl _) HX5.out).trans (h6.mono hg4)
  have HM6 := Lib.hid (show MkV g4 w6 v6 [7, 2] by simpa [enc7, enc2] using hm6)
  have HW6 := Lib.hid (Agg.belowThen HW.out (Nat.le_refl _) h36)
  clear hm5 hm6 hs6 h6 h36 hno
  go_wp2_with fail
  refine (has0 1 (by omega) _).mono ?_
  rintro e v1 ⟨rfl, rfl⟩
  go_wp2_with fail
  refine (has0 2 (by omega) _).mono ?_
  rintro e v2 ⟨rfl, rfl⟩
  go_wp2_with fail
  refine (has0 12 (by omega) _).mono ?_
  rintro e v12 ⟨rfl, rfl⟩
  go_wp2_with fail
  refine (has0 16 (by omega) _).mono ?_
  rintro e v16 ⟨rfl, rfl⟩
  go_wp2_with fail
  refine (has0 32 (by omega) _).mono ?_
  rintro e v32 ⟨rfl, rfl⟩
  go_wp2_with fail
  refine (done_any g4 v6 [7, 2] _ (by simp) HM6.out).mono ?_
  rintro e w7 ⟨v7, rfl, ho7, hx7⟩
  have hsz6 := HW6.out.size
  have HO7 := Lib.hid (ho7.lower hsz6)
  have HW7 := Lib.hid (Agg.belowThen HW6.out (Nat.le_refl _) hx7)
  clear ho7 hx7
  go_wp2_with fail
  go_ret2
  exact ⟨_, rfl, HO7.out, HW7.out⟩
end Go.Proofs.YtpnolgliklmnmaaGreat
