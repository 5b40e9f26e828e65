/- text.line, text.Put -/
import Derived.Test.YtfgjepfmcmppaaaCan
import Derived.Test.YtfgjepfmcmppaaaShown
namespace Go.Proofs.Ytfgjepfmcmppaaa
open Go.RowKit Pl Go.Agg
theorem ret_strB {a b : ByteArray} (h : a = b) : Ending.returned (.string a) = .returned (.string b) := by rw [h]
theorem pathS_le57 (h n : List UInt8) : (pathS h n).length ≤ 57 := by
  unfold pathS
  split
  · rename_i hn
    have := isName_le hn
    simp [letters_length]; omega
  · simp
theorem cat4 (a b c d : List UInt8) : (((⟨a.toArray⟩ : ByteArray) ++ ⟨b.toArray⟩) ++ ⟨c.toArray⟩) ++ ⟨d.toArray⟩ = ⟨(a ++ b ++ c ++ d).toArray⟩ := by rw [bytes_append, bytes_append, bytes_append]
set_option maxRecDepth 100000 in
set_option maxHeartbeats 2000000 in
theorem line_any (x : Nam) (h1 : x.1.length ≤ 1048576) (w : World) :
    Calls Try.prog 41 #[.agg (nmC x)] w fun e w' => e = .returned (.string ⟨(lineT x).toArray⟩) ∧ Below w.heap.size w w' := by
  have hll : (letters x.2.2.1.1).length ≤ 32 := by rw [letters_length]; omega
  have hpl := pathS_le57 x.2.1.1.1 x.2.1.1.2
  cases his : x.2.2.2 with
  | true =>
    have HR : Hid (lineT x = wClass ++ x.1 ++ [32] ++ letters x.2.2.1.1) := Lib.hid (by simp [lineT, his])
    go_enter Try.func41, Try.ntmps41
    go_wp2_with (first | (with_reducible refine Agg.wpList_box rfl 64 _ rfl (nmC x) rfl ?_; intro g w1 hb hx1 hg) | (have his2 := (NamB.of_blk hb).is; rw [his] at his2; with_reducible refine Agg.wpList_loadL his2 (by kernel_rfl) _ rfl rfl ?_))

    have HB := Lib.hid (NamB.of_blk hb)
    have hw1 := hx1
    clear hb hx1 hg his
    try simp only [Act.put, List.setIfInBounds_toArray, List.set_cons_succ, List.set_cons_zero]
    refine Agg.wp_region_later_lit (by kernel_rfl) (by kernel_rfl) ?_
    repeat (first | go_big_quiet_skip | ((first | (with_reducible refine Agg.wpQuiet_loadL HB.out.name (by kernel_rfl) _ rfl rfl ?_) | (with_reducible refine Agg.wpQuiet_loadL HB.out.cls (by kernel_rfl) _ rfl rfl ?_)); simp only [Act.put, List.setIfInBounds_toArray, List.set_cons_succ, List.set_cons_zero]) | go_big_quiet_step ((go_at_call 29; exact Agg.Calls.later (letters_any _ x.2.2.1.2 _))))
    refine wpQuiet_nil ?_
    intro _ hw'
    obtain ⟨x1, rfl⟩ := hw'
    go_wp2_with fail
    go_ret
    exact ⟨ret_strB (by rw [HR.out]; exact cat4 wClass x.1 [32] (letters x.2.2.1.1)), Agg.belowThen hw1 (Nat.le_refl _) x1.h⟩
  | false =>
    have HR : Hid (lineT x = wSrc ++ x.1 ++ [32] ++ pathS x.2.1.1.1 x.2.1.1.2) := Lib.hid (by simp [lineT, his])
    go_enter Try.func41, Try.ntmps41
    go_wp2_with (first | (with_reducible refine Agg.wpList_box rfl 64 _ rfl (nmC x) rfl ?_; intro g w1 hb hx1 hg) | (have his2 := (NamB.of_blk hb).is; rw [his] at his2; with_reducible refine Agg.wpList_loadL his2 (by kernel_rfl) _ rfl rfl ?_) | (with_reducible refine Agg.wpList_loadL (NamB.of_blk hb).src (by kernel_rfl) _ rfl rfl ?_))

    refine (path_any _ _ x.2.1.2 _).mono ?_
    rintro e w2 ⟨rfl, hx⟩
    have HB := Lib.hid ((NamB.of_blk hb).below hx)
    have hw2 := Agg.belowThen hx1 (Nat.le_refl _) hx
    clear hb hx1 hg his hx
    go_wp2_with (first | (with_reducible refine Agg.wpList_loadL HB.out.name (by kernel_rfl) _ rfl rfl ?_))

    go_ret
    exact ⟨ret_strB (by rw [HR.out]; exact cat4 wSrc x.1 [32] (pathS x.2.1.1.1 x.2.1.1.2)), hw2⟩
end Go.Proofs.Ytfgjepfmcmppaaa
