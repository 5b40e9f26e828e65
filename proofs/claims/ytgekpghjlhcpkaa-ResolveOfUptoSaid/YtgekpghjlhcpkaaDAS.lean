/- What hash.block, take and end need: a sponge's cells. (Several texts in one.) -/
import Derived.Test.YtgekpghjlhcpkaaDAR
import Derived.Shelf.Abstract
import Derived.Test.YtgekpghjlhcpkaaDAP
/-! hash.spread: a block's sixteen words, and those made of them. -/
namespace Go.Agg
open Go.RowKit
theorem step_slice2 {P : Program} {α : Type} {E : Elem P α} {ops : Array Oper} {o : Oper} {a : Act} {w : World} {Q : Exit → Act → World → Prop} {K : Act → World → Prop} {F : Prop} (hg : o.guard = none) (x y : Operand) (ho : o.op = .buildSlice E.st 2 #[(0, x), (1, y)]) (vx vy : α) (hx : a.eval x = E.val vx) (hy : a.eval y = E.val vy)
    (h : ∀ v' w', SliceOf E w' v' [vx, vy] → Below w.heap.size w w' → K (a.put o.dst v') w') : if Region.wanted o (yielded ops a.tmps) = true then o.wp P a w K Q else F :=
  step_val hg (v := .slice (some ⟨w.heap.size, 0, none⟩) 2 2) (w' := w.alloc (.cells ((E.val vx).cells ++ (E.val vy).cells) E.ty)) (by simp [execOp, ho, hx, hy, run_slice_two])
    (h _ _ (slice_of_block2 (Blk.new w E.ty _)) ((Below.refl _ _).alloc (Nat.le_refl _) _))
end Go.Agg
namespace Go.Proofs.Ytgekpghjlhcpkaa
open Go.RowKit Pl Go.Agg Go.Sha
/-- bytes in the midst of a block -/
def BytesIn (w : World) (g o : Nat) (bs : List UInt8) : Prop := ∀ (i : Nat) (c : UInt8), bs[i]? = some c → LoadsL Try.prog w 5 (some ⟨g, o + i, none⟩) (.int .u8 (c.toNat : Int))
theorem BytesIn.below {w w' : World} {g o : Nat} {bs : List UInt8} (h : BytesIn w g o bs) (hb : Below w.heap.size w w') : BytesIn w' g o bs := fun i c hc => (h i c hc).below hb
theorem set_mid {α : Type} (l : List α) (x z : α) (n : Nat) : (l ++ List.replicate (n + 1) z).set l.length x = (l ++ [x]) ++ List.replicate n z := by
  rw [List.set_append_right _ _ (Nat.le_refl _), Nat.sub_self, List.replicate_succ, List.set_cons_zero, List.append_assoc]; rfl
theorem words_set (bs : List UInt8) (k : Nat) (hk : k < 64) (x : W) (hx : words bs (k + 1) = words bs k ++ [x]) : (words bs k ++ List.replicate (64 - k) 0).set k x = words bs (k + 1) ++ List.replicate (64 - (k + 1)) 0 := by
  have := set_mid (words bs k) x 0 (64 - (k + 1))
  rw [words_length, show 64 - (k + 1) + 1 = 64 - k by omega, ← hx] at this
  exact this
theorem words_lo {bs : List UInt8} {k : Nat} (h : k < 16) : words bs (k + 1) = words bs k ++ [word bs (4 * k)] := by rw [words]; simp [h]
theorem words_hi {bs : List UInt8} {k : Nat} (h : ¬ k < 16) : words bs (k + 1) = words bs k ++ [nextW (words bs k)] := by rw [words]; simp [h]
theorem words_at {bs : List UInt8} {k i : Nat} (_hk : k ≤ 64) (hi : i < k) : (words bs k ++ List.replicate (64 - k) 0)[i]? = some ((words bs k).getD i 0) := by
  rw [List.getElem?_append_left (by rw [words_length]; exact hi), List.getElem?_eq_getElem (by rw [words_length]; exact hi)]
  simp [List.getD, List.getElem?_eq_getElem (show i < (words bs k).length by rw [words_length]; exact hi)]
/-- two words that stay while the next one is stored -/
def SprS (g k : Nat) (w7 w16 : W) (u : World) : Prop := ∃ L : List W, Blk u g 148 (wC L) ∧ L[k - 7]? = some w7 ∧ L[k - 16]? = some w16
theorem SprS.l7 {g k : Nat} {w7 w16 : W} {u : World} (h : SprS g k w7 w16 u) : LoadsL Try.prog u 137 (some ⟨g, k - 7, none⟩) (vW w7) := by
  obtain ⟨L, hB, h7, h16⟩ := h
  exact hB.one (P := Try.prog) (k - 7) (wC_get _ _ _ h7) Try.underlying137 rfl
theorem SprS.l16 {g k : Nat} {w7 w16 : W} {u : World} (h : SprS g k w7 w16 u) : LoadsL Try.prog u 137 (some ⟨g, k - 16, none⟩) (vW w16) := by
  obtain ⟨L, hB, h7, h16⟩ := h
  exact hB.one (P := Try.prog) (k - 16) (wC_get _ _ _ h16) Try.underlying137 rfl
set_option maxRecDepth 100000 in
set_option maxHeartbeats 16000000 in
theorem spread_any (gb ob : Nat) (bs : List UInt8) (hbs : bs.length = 64) (w : World) (hb : BytesIn w gb ob bs) : Calls Try.prog 83 #[.pointer (some ⟨gb, ob, none⟩)] w fun e w' => e = .returned (.agg (wC (words bs 64))) ∧ Below w.heap.size w w' := by
  have HIB := Lib.hid (fun (i : Nat) (h : i < 64) W => run_idxArr (P := Try.prog) (t := 141) (e := 5) (w := W) Try.underlying141 (by kernel_rfl) gb ob i h)
  have HEM := Lib.hid (enters_of Try.func84 (by kernel_rfl) rfl : ∀ args w, (callFunc 84 args).run Try.prog w = .ok (.enter 84 args) w)
  have HSB := Lib.hid (fun W (k : Below w.heap.size w W) => hb.below k)
  clear hb
  go_enter Try.func83, Try.ntmps83
  go_wp2_with (first | (with_reducible refine wpList_zero rfl 148 rfl (wC (List.replicate 64 0)) w64_zero ?_; intro g2 w2 hb2 hx2 hg2; have HB2 := Lib.hid hb2; have HX2 := Lib.hid hx2; have HG2 := Lib.hid hg2; clear hb2 hx2 hg2))
  have HIG := Lib.hid (fun (i : Nat) (h : i < 64) W => (show (Instr.indexAt 148 (.pointer (some ⟨g2, 0, none⟩)) (.int .i64 (i : Int))).run Try.prog W = .ok (.pointer (some ⟨g2, i, none⟩)) W by have := run_idxArr (P := Try.prog) (t := 148) (e := 137) (w := W) Try.underlying148 (by kernel_rfl) g2 0 i h; rwa [Nat.zero_add] at this))
  go_loopw [7] (fun i wr => ∃ k : Nat, k ≤ 64 ∧ i = .int .i64 (k : Int) ∧ Blk wr g2 148 (wC (words bs k ++ List.replicate (64 - k) 0)) ∧ Below w.heap.size w wr) (fun i _ => 64 - (intOf i).toNat)
  case atStart => exact ⟨0, by omega, rfl, HB2.out, HX2.out⟩
  case round =>
    obtain ⟨wr1, rfl⟩ : ∃ y : World, y = wr := ⟨_, rfl⟩
    obtain ⟨k, hk, rfl, hb, hw⟩ := hrel
    have HB := Lib.hid hb
    have HW := Lib.hid hw
    clear hb hw
    by_cases hlt : k < 64
    · have hd1 : decide ((k : Int) < 64) = true := by simp; omega
      by_cases h16 : k < 16
      · have hd2 : decide ((k : Int) < 16) = true := by simp; omega
        obtain ⟨c0, hc0⟩ : ∃ c, bs[4 * k]? = some c := ⟨_, List.getElem?_eq_getElem (by omega)⟩
        obtain ⟨c1, hc1⟩ : ∃ c, bs[4 * k + 1]? = some c := ⟨_, List.getElem?_eq_getElem (by omega)⟩
        obtain ⟨c2, hc2⟩ : ∃ c, bs[4 * k + 2]? = some c := ⟨_, List.getElem?_eq_getElem (by omega)⟩
        obtain ⟨c3, hc3⟩ : ∃ c, bs[4 * k + 3]? = some c := ⟨_, List.getElem?_eq_getElem (by omega)⟩
        have HWD := Lib.hid (show (((wB c0 <<< 24) ||| (wB c1 <<< 16)) ||| (wB c2 <<< 8)) ||| wB c3 = word bs (4 * k) by rw [word_or]; simp [word, List.getD, hc0, hc1, hc2, hc3])
        have HNX := Lib.hid (words_set bs k hlt _ (words_lo h16))
        have HC0 := Lib.hid hc0
        have HC1 := Lib.hid hc1
        have HC2 := Lib.hid hc2
        have HC3 := Lib.hid hc3
        clear hc0 hc1 hc2 hc3
        go_wp2_with (first | (refine wpList_valw rfl (exec_mulI (m := 4) (n := k) (by omega) rfl rfl rfl) ?_))
        try simp only [List.append_eq, List.cons_append, List.nil_append]
        try simp only [Act.put, List.setIfInBounds_toArray, List.set_cons_succ, List.set_cons_zero]
        obtain ⟨w_d, hwd⟩ : ∃ W, W = wr1.drew := ⟨_, rfl⟩
        have hd : Below wr1.heap.size wr1 w_d := by rw [hwd]; exact (Below.refl _ _).drew
        have K_d := Lib.hid (Agg.belowThen HW.out (Nat.le_refl _) hd)
        have HB_d := Lib.hid (HB.out.below hd)
        have S_d := Lib.hid (HSB.out w_d K_d.out)
        refine wp_region_held_drew (S := fun W => BytesIn W gb ob bs) (by kernel_rfl) (by rw [← hwd]; exact S_d.out) (fun hHeld => ?_)
        rw [← hwd] at hHeld ⊢
        clear hwd hd hHeld
        refine Agg.held_take 0 (.int .i64 ((k : Nat) : Int)) rfl (by kernel_rfl) (fun _ _ _ h => h) rfl (fun W _ => by kernel_rfl) (by assumption) ?_
        try simp only [Act.put, List.setIfInBounds_toArray, List.set_cons_succ, List.set_cons_zero]
        refine Agg.held_take 1 (.pointer (some ⟨gb, ob, none⟩)) rfl (by kernel_rfl) (fun _ _ _ h => h) rfl (fun W _ => by kernel_rfl) (by assumption) ?_
        try simp only [Act.put, List.setIfInBounds_toArray, List.set_cons_succ, List.set_cons_zero]
        refine Agg.held_take 2 (.int .i64 ((4 * k : Nat) : Int)) rfl (by kernel_rfl) (fun _ _ _ h => h) rfl (fun W _ => by kernel_rfl) (by assumption) ?_
        try simp only [Act.put, List.setIfInBounds_toArray, List.set_cons_succ, List.set_cons_zero]
        refine Agg.held_take 3 (.pointer (some ⟨gb, ob, none⟩)) rfl (by kernel_rfl) (fun _ _ _ h => h) rfl (fun W _ => by kernel_rfl) (by assumption) ?_
        try simp only [Act.put, List.setIfInBounds_toArray, List.set_cons_succ, List.set_cons_zero]
        refine Agg.held_take 4 (.pointer (some ⟨gb, ob + (4 * k), none⟩)) rfl (by kernel_rfl) (fun _ _ _ h => h) rfl (fun W _ => exec_idx rfl rfl rfl (HIB.out (4 * k) (by omega) W)) (by assumption) ?_
        try simp only [Act.put, List.setIfInBounds_toArray, List.set_cons_succ, List.set_cons_zero]
        refine Agg.held_take 5 (.int .u8 (c0.toNat : Int)) rfl (by kernel_rfl) (fun _ _ _ h => h) rfl (fun W hS => exec_loadB rfl rfl (hS _ _ HC0.out).now) (by assumption) ?_
        try simp only [Act.put, List.setIfInBounds_toArray, List.set_cons_succ, List.set_cons_zero]
        refine Agg.held_take 6 (vW (wB c0)) rfl (by kernel_rfl) (fun _ _ _ h => h) rfl (fun W _ => exec_cvW rfl rfl) (by assumption) ?_
        try simp only [Act.put, List.setIfInBounds_toArray, List.set_cons_succ, List.set_cons_zero]
        refine Agg.held_take 7 (vW (wB c0 <<< 24)) rfl (by kernel_rfl) (fun _ _ _ h => h) rfl (fun W _ => exec_shlW (x := wB c0) 24 (by decide) rfl rfl rfl) (by assumption) ?_
        try simp only [Act.put, List.setIfInBounds_toArray, List.set_cons_succ, List.set_cons_zero]
        refine Agg.held_take 8 (.pointer (some ⟨gb, ob, none⟩)) rfl (by kernel_rfl) (fun _ _ _ h => h) rfl (fun W _ => by kernel_rfl) (by assumption) ?_
        try simp only [Act.put, List.setIfInBounds_toArray, List.set_cons_succ, List.set_cons_zero]
        refine Agg.held_take 9 (.int .i64 ((4 * k : Nat) : Int)) rfl (by kernel_rfl) (fun _ _ _ h => h) rfl (fun W _ => by kernel_rfl) (by assumption) ?_
        try simp only [Act.put, List.setIfInBounds_toArray, List.set_cons_succ, List.set_cons_zero]
        refine Agg.held_take 10 (.int .i64 ((4 * k + 1 : Nat) : Int)) rfl (by kernel_rfl) (fun _ _ _ h => h) rfl (fun W _ => exec_addI (m := 4 * k) (n := 1) (by omega) rfl rfl rfl) (by assumption) ?_
        try simp only [Act.put, List.setIfInBounds_toArray, List.set_cons_succ, List.set_cons_zero]
        refine Agg.held_take 11 (.pointer (some ⟨gb, ob, none⟩)) rfl (by kernel_rfl) (fun _ _ _ h => h) rfl (fun W _ => by kernel_rfl) (by assumption) ?_
        try simp only [Act.put, List.setIfInBounds_toArray, List.set_cons_succ, List.set_cons_zero]
        refine Agg.held_take 12 (.pointer (some ⟨gb, ob + (4 * k + 1), none⟩)) rfl (by kernel_rfl) (fun _ _ _ h => h) rfl (fun W _ => exec_idx rfl rfl rfl (HIB.out (4 * k + 1) (by omega) W)) (by assumption) ?_
        try simp only [Act.put, List.setIfInBounds_toArray, List.set_cons_succ, List.set_cons_zero]
        refine Agg.held_take 13 (.int .u8 (c1.toNat : Int)) rfl (by kernel_rfl) (fun _ _ _ h => h) rfl (fun W hS => exec_loadB rfl rfl (hS _ _ HC1.out).now) (by assumption) ?_
        try simp only [Act.put, List.setIfInBounds_toArray, List.set_cons_succ, List.set_cons_zero]
        refine Agg.held_take 14 (vW (wB c1)) rfl (by kernel_rfl) (fun _ _ _ h => h) rfl (fun W _ => exec_cvW rfl rfl) (by assumption) ?_
        try simp only [Act.put, List.setIfInBounds_toArray, List.set_cons_succ, List.set_cons_zero]
        refine Agg.held_take 15 (vW (wB c1 <<< 16)) rfl (by kernel_rfl) (fun _ _ _ h => h) rfl (fun W _ => exec_shlW (x := wB c1) 16 (by decide) rfl rfl rfl) (by assumption) ?_
        try simp only [Act.put, List.setIfInBounds_toArray, List.set_cons_succ, List.set_cons_zero]
        refine Agg.held_take 16 (vW ((wB c0 <<< 24) ||| (wB c1 <<< 16))) rfl (by kernel_rfl) (fun _ _ _ h => h) rfl (fun W _ => exec_orW (x := wB c0 <<< 24) (y := wB c1 <<< 16) rfl rfl rfl) (by assumption) ?_
        try simp only [Act.put, List.setIfInBounds_toArray, List.set_cons_succ, List.set_cons_zero]
        refine Agg.held_take 17 (.pointer (some ⟨gb, ob, none⟩)) rfl (by kernel_rfl) (fun _ _ _ h => h) rfl (fun W _ => by kernel_rfl) (by assumption) ?_
        try simp only [Act.put, List.setIfInBounds_toArray, List.set_cons_succ, List.set_cons_zero]
        refine Agg.held_take 18 (.int .i64 ((4 * k : Nat) : Int)) rfl (by kernel_rfl) (fun _ _ _ h => h) rfl (fun W _ => by kernel_rfl) (by assumption) ?_
        try simp only [Act.put, List.setIfInBounds_toArray, List.set_cons_succ, List.set_cons_zero]
        refine Agg.held_take 19 (.int .i64 ((4 * k + 2 : Nat) : Int)) rfl (by kernel_rfl) (fun _ _ _ h => h) rfl (fun W _ => exec_addI (m := 4 * k) (n := 2) (by omega) rfl rfl rfl) (by assumption) ?_
        try simp only [Act.put, List.setIfInBounds_toArray, List.set_cons_succ, List.set_cons_zero]
        refine Agg.held_take 20 (.pointer (some ⟨gb, ob, none⟩)) rfl (by kernel_rfl) (fun _ _ _ h => h) rfl (fun W _ => by kernel_rfl) (by assumption) ?_
        try simp only [Act.put, List.setIfInBounds_toArray, List.set_cons_succ, List.set_cons_zero]
        refine Agg.held_take 21 (.pointer (some ⟨gb, ob + (4 * k + 2), none⟩)) rfl (by kernel_rfl) (fun _ _ _ h => h) rfl (fun W _ => exec_idx rfl rfl rfl (HIB.out (4 * k + 2) (by omega) W)) (by assumption) ?_
        try simp only [Act.put, List.setIfInBounds_toArray, List.set_cons_succ, List.set_cons_zero]
        refine Agg.held_take 22 (.int .u8 (c2.toNat : Int)) rfl (by kernel_rfl) (fun _ _ _ h => h) rfl (fun W hS => exec_loadB rfl rfl (hS _ _ HC2.out).now) (by assumption) ?_
        try simp only [Act.put, List.setIfInBounds_toArray, List.set_cons_succ, List.set_cons_zero]
        refine Agg.held_take 23 (vW (wB c2)) rfl (by kernel_rfl) (fun _ _ _ h => h) rfl (fun W _ => exec_cvW rfl rfl) (by assumption) ?_
        try simp only [Act.put, List.setIfInBounds_toArray, List.set_cons_succ, List.set_cons_zero]
        refine Agg.held_take 24 (vW (wB c2 <<< 8)) rfl (by kernel_rfl) (fun _ _ _ h => h) rfl (fun W _ => exec_shlW (x := wB c2) 8 (by decide) rfl rfl rfl) (by assumption) ?_
        try simp only [Act.put, List.setIfInBounds_toArray, List.set_cons_succ, List.set_cons_zero]
        refine Agg.held_take 25 (vW (((wB c0 <<< 24) ||| (wB c1 <<< 16)) ||| (wB c2 <<< 8))) rfl (by kernel_rfl) (fun _ _ _ h => h) rfl (fun W _ => exec_orW (x := (wB c0 <<< 24) ||| (wB c1 <<< 16)) (y := wB c2 <<< 8) rfl rfl rfl) (by assumption) ?_
        try simp only [Act.put, List.setIfInBounds_toArray, List.set_cons_succ, List.set_cons_zero]
        refine Agg.held_take 26 (.pointer (some ⟨gb, ob, none⟩)) rfl (by kernel_rfl) (fun _ _ _ h => h) rfl (fun W _ => by kernel_rfl) (by assumption) ?_
        try simp only [Act.put, List.setIfInBounds_toArray, List.set_cons_succ, List.set_cons_zero]
        refine Agg.held_take 27 (.int .i64 ((4 * k : Nat) : Int)) rfl (by kernel_rfl) (fun _ _ _ h => h) rfl (fun W _ => by kernel_rfl) (by assumption) ?_
        try simp only [Act.put, List.setIfInBounds_toArray, List.set_cons_succ, List.set_cons_zero]
        refine Agg.held_take 28 (.int .i64 ((4 * k + 3 : Nat) : Int)) rfl (by kernel_rfl) (fun _ _ _ h => h) rfl (fun W _ => exec_addI (m := 4 * k) (n := 3) (by omega) rfl rfl rfl) (by assumption) ?_
        try simp only [Act.put, List.setIfInBounds_toArray, List.set_cons_succ, List.set_cons_zero]
        refine Agg.held_take 29 (.pointer (some ⟨gb, ob, none⟩)) rfl (by kernel_rfl) (fun _ _ _ h => h) rfl (fun W _ => by kernel_rfl) (by assumption) ?_
        try simp only [Act.put, List.setIfInBounds_toArray, List.set_cons_succ, List.set_cons_zero]
        refine Agg.held_take 30 (.pointer (some ⟨gb, ob + (4 * k + 3), none⟩)) rfl (by kernel_rfl) (fun _ _ _ h => h) rfl (fun W _ => exec_idx rfl rfl rfl (HIB.out (4 * k + 3) (by omega) W)) (by assumption) ?_
        try simp only [Act.put, List.setIfInBounds_toArray, List.set_cons_succ, List.set_cons_zero]
        refine Agg.held_take 31 (.int .u8 (c3.toNat : Int)) rfl (by kernel_rfl) (fun _ _ _ h => h) rfl (fun W hS => exec_loadB rfl rfl (hS _ _ HC3.out).now) (by assumption) ?_
        try simp only [Act.put, List.setIfInBounds_toArray, List.set_cons_succ, List.set_cons_zero]
        refine Agg.held_take 32 (vW (wB c3)) rfl (by kernel_rfl) (fun _ _ _ h => h) rfl (fun W _ => exec_cvW rfl rfl) (by assumption) ?_
        try simp only [Act.put, List.setIfInBounds_toArray, List.set_cons_succ, List.set_cons_zero]
        refine Agg.held_take 33 (vW (word bs (4 * k))) rfl (by kernel_rfl) (fun _ _ _ h => h) rfl (fun W _ => by rw [← HWD.out]; exact exec_orW (x := ((wB c0 <<< 24) ||| (wB c1 <<< 16)) ||| (wB c2 <<< 8)) (y := wB c3) rfl rfl rfl) (by assumption) ?_
        try simp only [Act.put, List.setIfInBounds_toArray, List.set_cons_succ, List.set_cons_zero]
        refine Agg.held_take 34 (.pointer (some ⟨g2, k, none⟩)) rfl (by kernel_rfl) (fun _ _ _ h => h) rfl (fun W _ => exec_idx rfl rfl rfl (HIG.out k (by omega) W)) (by assumption) ?_
        try simp only [Act.put, List.setIfInBounds_toArray, List.set_cons_succ, List.set_cons_zero]
        refine Agg.held_ready [35] (by kernel_rfl) (by simp) ?_
        refine Agg.held_cons rfl ?_ ?_
        · obtain ⟨w_d_35, hrun, hb, ho⟩ := Blk.run_one (P := Try.prog) (ty := 137) HB_d.out k (by rw [wC_size]; simp [words_length]; omega) (vW (word bs (4 * k))) rfl rfl (by kernel_rfl) (wC (words bs (k + 1) ++ List.replicate (64 - (k + 1)) 0)) (by rw [wC_set, HNX.out])
          refine Agg.step_store rfl rfl 137 _ _ rfl (.pointer (some ⟨g2, k, none⟩)) (vW (word bs (4 * k))) rfl rfl hrun ?_
          have K_d_35 := Lib.hid (K_d.out.trans (ho.below (B := w.heap.size) K_d.out.size (fun i hi => by subst hi; exact HG2.out)))
          have B_d_35 := Lib.hid hb
          have S_d_35 := Lib.hid (HSB.out w_d_35 K_d_35.out)
          clear hrun hb ho
          refine ⟨S_d_35.out, ?_⟩
          try simp only [Act.put, List.setIfInBounds_toArray, List.set_cons_succ, List.set_cons_zero]
          refine Agg.held_end (by kernel_rfl) ?_
          go_wp2_with fail
          go_roundw
          case rel => exact ⟨k + 1, by omega, by go_num, B_d_35.out, K_d_35.out⟩
          case measure => simp [intOf]; omega
        exact AllReadyH.nil
      · have hd2 : decide ((k : Int) < 16) = false := by simp; omega
        obtain ⟨w2, hw2⟩ : ∃ x, (words bs k).getD (k - 2) 0 = x := ⟨_, rfl⟩
        obtain ⟨w7, hw7⟩ : ∃ x, (words bs k).getD (k - 7) 0 = x := ⟨_, rfl⟩
        obtain ⟨w15, hw15⟩ : ∃ x, (words bs k).getD (k - 15) 0 = x := ⟨_, rfl⟩
        obtain ⟨w16, hw16⟩ : ∃ x, (words bs k).getD (k - 16) 0 = x := ⟨_, rfl⟩
        have Hw2 := Lib.hid (show (words bs k ++ List.replicate (64 - k) 0)[k - 2]? = some w2 by rw [words_at hk (by omega), hw2])
        have Hw7 := Lib.hid (show (words bs k ++ List.replicate (64 - k) 0)[k - 7]? = some w7 by rw [words_at hk (by omega), hw7])
        have Hw15 := Lib.hid (show (words bs k ++ List.replicate (64 - k) 0)[k - 15]? = some w15 by rw [words_at hk (by omega), hw15])
        have Hw16 := Lib.hid (show (words bs k ++ List.replicate (64 - k) 0)[k - 16]? = some w16 by rw [words_at hk (by omega), hw16])
        have HNW := Lib.hid (show (mixP w2 [17, 19] ^^^ (w2 >>> 10)) + w7 + (mixP w15 [7, 18] ^^^ (w15 >>> 3)) + w16 = nextW (words bs k) by rw [mix_t1, mix_t0, nextW, words_length, hw2, hw7, hw15, hw16])
        have HNX := Lib.hid (words_set bs k hlt _ (words_hi h16))
        clear hw2 hw7 hw15 hw16
        go_wp2_with fail
        try simp only [List.append_eq, List.cons_append, List.nil_append]
        try simp only [Act.put, List.setIfInBounds_toArray, List.set_cons_succ, List.set_cons_zero]
        obtain ⟨w_d, hwd⟩ : ∃ W, W = wr1.drew := ⟨_, rfl⟩
        have hd : Below wr1.heap.size wr1 w_d := by rw [hwd]; exact (Below.refl _ _).drew
        have K_d := Lib.hid (Agg.belowThen HW.out (Nat.le_refl _) hd)
        have HB_d := Lib.hid (HB.out.below hd)
        have S_d := Lib.hid (HSB.out w_d K_d.out)
        refine wp_region_held_drew (S := fun W => Blk W g2 148 (wC (words bs k ++ List.replicate (64 - k) 0))) (by kernel_rfl) (by rw [← hwd]; exact HB_d.out) (fun hHeld => ?_)
        rw [← hwd] at hHeld ⊢
        clear hwd hd hHeld
        refine Agg.held_take 0 (.int .i64 ((k : Nat) : Int)) rfl (by kernel_rfl) (fun _ _ _ h => h) rfl (fun W _ => by kernel_rfl) (by assumption) ?_
        try simp only [Act.put, List.setIfInBounds_toArray, List.set_cons_succ, List.set_cons_zero]
        refine Agg.held_take 1 (.int .i64 ((k - 2 : Nat) : Int)) rfl (by kernel_rfl) (fun _ _ _ h => h) rfl (fun W _ => exec_subI (m := k) (n := 2) (by omega) (by omega) rfl rfl rfl) (by assumption) ?_
        try simp only [Act.put, List.setIfInBounds_toArray, List.set_cons_succ, List.set_cons_zero]
        refine Agg.held_take 2 (.pointer (some ⟨g2, k - 2, none⟩)) rfl (by kernel_rfl) (fun _ _ _ h => h) rfl (fun W _ => exec_idx rfl rfl rfl (HIG.out (k - 2) (by omega) W)) (by assumption) ?_
        try simp only [Act.put, List.setIfInBounds_toArray, List.set_cons_succ, List.set_cons_zero]
        refine Agg.held_take 3 (vW w2) rfl (by kernel_rfl) (fun _ _ _ h => h) rfl (fun W hS => exec_loadB rfl rfl (hS.one (P := Try.prog) (ty := 137) (k - 2) (wC_get _ _ _ Hw2.out) Try.underlying137 rfl).now) (by assumption) ?_
        try simp only [Act.put, List.setIfInBounds_toArray, List.set_cons_succ, List.set_cons_zero]
        refine Agg.held_take 4 (.int .i64 ((k : Nat) : Int)) rfl (by kernel_rfl) (fun _ _ _ h => h) rfl (fun W _ => by kernel_rfl) (by assumption) ?_
        try simp only [Act.put, List.setIfInBounds_toArray, List.set_cons_succ, List.set_cons_zero]
        refine Agg.held_take 5 (.int .i64 ((k - 15 : Nat) : Int)) rfl (by kernel_rfl) (fun _ _ _ h => h) rfl (fun W _ => exec_subI (m := k) (n := 15) (by omega) (by omega) rfl rfl rfl) (by assumption) ?_
        try simp only [Act.put, List.setIfInBounds_toArray, List.set_cons_succ, List.set_cons_zero]
        refine Agg.held_take 6 (.pointer (some ⟨g2, k - 15, none⟩)) rfl (by kernel_rfl) (fun _ _ _ h => h) rfl (fun W _ => exec_idx rfl rfl rfl (HIG.out (k - 15) (by omega) W)) (by assumption) ?_
        try simp only [Act.put, List.setIfInBounds_toArray, List.set_cons_succ, List.set_cons_zero]
        refine Agg.held_take 7 (vW w15) rfl (by kernel_rfl) (fun _ _ _ h => h) rfl (fun W hS => exec_loadB rfl rfl (hS.one (P := Try.prog) (ty := 137) (k - 15) (wC_get _ _ _ Hw15.out) Try.underlying137 rfl).now) (by assumption) ?_
        try simp only [Act.put, List.setIfInBounds_toArray, List.set_cons_succ, List.set_cons_zero]
        refine Agg.held_take 8 (vW w2) rfl (by kernel_rfl) (fun _ _ _ h => h) rfl (fun W _ => by kernel_rfl) (by assumption) ?_
        try simp only [Act.put, List.setIfInBounds_toArray, List.set_cons_succ, List.set_cons_zero]
        refine Agg.held_take 9 (vW w15) rfl (by kernel_rfl) (fun _ _ _ h => h) rfl (fun W _ => by kernel_rfl) (by assumption) ?_
        try simp only [Act.put, List.setIfInBounds_toArray, List.set_cons_succ, List.set_cons_zero]
        refine Agg.held_end (by kernel_rfl) ?_
        go_wp2_with fail
        try simp only [List.append_eq, List.cons_append, List.nil_append]
        try simp only [Act.put, List.setIfInBounds_toArray, List.set_cons_succ, List.set_cons_zero]
        obtain ⟨w_e, hwd⟩ : ∃ W, W = w_d.drew := ⟨_, rfl⟩
        have hd : Below w_d.heap.size w_d w_e := by rw [hwd]; exact (Below.refl _ _).drew
        have K_e := Lib.hid (Agg.belowThen K_d.out (Nat.le_refl _) hd)
        have G_e := Lib.hid (HB_d.out.below hd)
        have S_e := Lib.hid (⟨_, G_e.out, Hw7.out, Hw16.out⟩ : SprS g2 k w7 w16 w_e)
        refine wp_region_held_drew (S := SprS g2 k w7 w16) (by kernel_rfl) (by rw [← hwd]; exact S_e.out) (fun hHeld => ?_)
        rw [← hwd] at hHeld ⊢
        clear hwd hd hHeld
        refine Agg.held_take 0 (.int .i64 ((k : Nat) : Int)) rfl (by kernel_rfl) (fun _ _ _ h => h) rfl (fun W _ => by kernel_rfl) (by assumption) ?_
        try simp only [Act.put, List.setIfInBounds_toArray, List.set_cons_succ, List.set_cons_zero]
        refine Agg.held_take 1 (vW w2) rfl (by kernel_rfl) (fun _ _ _ h => h) rfl (fun W _ => by kernel_rfl) (by assumption) ?_
        try simp only [Act.put, List.setIfInBounds_toArray, List.set_cons_succ, List.set_cons_zero]
        refine Agg.held_take 4 (vW w2) rfl (by kernel_rfl) (fun _ _ _ h => h) rfl (fun W _ => by kernel_rfl) (by assumption) ?_
        try simp only [Act.put, List.setIfInBounds_toArray, List.set_cons_succ, List.set_cons_zero]
        refine Agg.held_take 5 (vW (w2 >>> 10)) rfl (by kernel_rfl) (fun _ _ _ h => h) rfl (fun W _ => exec_shrW (x := w2) 10 (by decide) rfl rfl rfl) (by assumption) ?_
        try simp only [Act.put, List.setIfInBounds_toArray, List.set_cons_succ, List.set_cons_zero]
        refine Agg.held_take 7 (.int .i64 ((k : Nat) : Int)) rfl (by kernel_rfl) (fun _ _ _ h => h) rfl (fun W _ => by kernel_rfl) (by assumption) ?_
        try simp only [Act.put, List.setIfInBounds_toArray, List.set_cons_succ, List.set_cons_zero]
        refine Agg.held_take 8 (.int .i64 ((k - 7 : Nat) : Int)) rfl (by kernel_rfl) (fun _ _ _ h => h) rfl (fun W _ => exec_subI (m := k) (n := 7) (by omega) (by omega) rfl rfl rfl) (by assumption) ?_
        try simp only [Act.put, List.setIfInBounds_toArray, List.set_cons_succ, List.set_cons_zero]
        refine Agg.held_take 9 (.pointer (some ⟨g2, k - 7, none⟩)) rfl (by kernel_rfl) (fun _ _ _ h => h) rfl (fun W _ => exec_idx rfl rfl rfl (HIG.out (k - 7) (by omega) W)) (by assumption) ?_
        try simp only [Act.put, List.setIfInBounds_toArray, List.set_cons_succ, List.set_cons_zero]
        refine Agg.held_take 10 (vW w7) rfl (by kernel_rfl) (fun _ _ _ h => h) rfl (fun u hS => exec_loadB rfl rfl hS.l7.now) (by assumption) ?_
        try simp only [Act.put, List.setIfInBounds_toArray, List.set_cons_succ, List.set_cons_zero]
        refine Agg.held_take 12 (vW w15) rfl (by kernel_rfl) (fun _ _ _ h => h) rfl (fun W _ => by kernel_rfl) (by assumption) ?_
        try simp only [Act.put, List.setIfInBounds_toArray, List.set_cons_succ, List.set_cons_zero]
        refine Agg.held_take 15 (vW w15) rfl (by kernel_rfl) (fun _ _ _ h => h) rfl (fun W _ => by kernel_rfl) (by assumption) ?_
        try simp only [Act.put, List.setIfInBounds_toArray, List.set_cons_succ, List.set_cons_zero]
        refine Agg.held_take 16 (vW (w15 >>> 3)) rfl (by kernel_rfl) (fun _ _ _ h => h) rfl (fun W _ => exec_shrW (x := w15) 3 (by decide) rfl rfl rfl) (by assumption) ?_
        try simp only [Act.put, List.setIfInBounds_toArray, List.set_cons_succ, List.set_cons_zero]
        refine Agg.held_take 19 (.int .i64 ((k : Nat) : Int)) rfl (by kernel_rfl) (fun _ _ _ h => h) rfl (fun W _ => by kernel_rfl) (by assumption) ?_
        try simp only [Act.put, List.setIfInBounds_toArray, List.set_cons_succ, List.set_cons_zero]
        refine Agg.held_take 20 (.int .i64 ((k - 16 : Nat) : Int)) rfl (by kernel_rfl) (fun _ _ _ h => h) rfl (fun W _ => exec_subI (m := k) (n := 16) (by omega) (by omega) rfl rfl rfl) (by assumption) ?_
        try simp only [Act.put, List.setIfInBounds_toArray, List.set_cons_succ, List.set_cons_zero]
        refine Agg.held_take 21 (.pointer (some ⟨g2, k - 16, none⟩)) rfl (by kernel_rfl) (fun _ _ _ h => h) rfl (fun W _ => exec_idx rfl rfl rfl (HIG.out (k - 16) (by omega) W)) (by assumption) ?_
        try simp only [Act.put, List.setIfInBounds_toArray, List.set_cons_succ, List.set_cons_zero]
        refine Agg.held_take 22 (vW w16) rfl (by kernel_rfl) (fun _ _ _ h => h) rfl (fun u hS => exec_loadB rfl rfl hS.l16.now) (by assumption) ?_
        try simp only [Act.put, List.setIfInBounds_toArray, List.set_cons_succ, List.set_cons_zero]
        refine Agg.held_ready [2, 13] (by kernel_rfl) (by simp) ?_
        refine Agg.held_cons rfl ?_ ?_
        · refine Agg.step_slice2 (E := EI) rfl _ _ rfl 17 19 rfl rfl ?_
          intro va w_e_2 hs hx
          have K_e_2 := Lib.hid (Agg.belowThen K_e.out (Nat.le_refl _) hx)
          have G_e_2 := Lib.hid (G_e.out.below hx)
          have Vva_e_2 := Lib.hid hs
          clear hs hx
          have S_e_2 := Lib.hid (⟨_, G_e_2.out, Hw7.out, Hw16.out⟩ : SprS g2 k w7 w16 w_e_2)
          refine ⟨S_e_2.out, ?_⟩
          try simp only [Act.put, List.setIfInBounds_toArray, List.set_cons_succ, List.set_cons_zero]
          refine Agg.held_ready [3, 13] (by kernel_rfl) (by simp) ?_
          refine Agg.held_cons rfl ?_ ?_
          · refine Agg.step_call rfl 84 _ _ rfl #[vW w2, va] (by simp only [List.map_toArray, List.map_cons, List.map_nil]; rfl) (fun W => HEM.out _ W) ?_
            refine (mixed_any w2 va [17, 19] (by decide) (by decide) w_e_2 Vva_e_2.out).mono ?_
            rintro e w_e_2_3 ⟨rfl, hx⟩
            have K_e_2_3 := Lib.hid (Agg.belowThen K_e_2.out (Nat.le_refl _) hx)
            have G_e_2_3 := Lib.hid (G_e_2.out.below hx)
            clear hx
            have S_e_2_3 := Lib.hid (⟨_, G_e_2_3.out, Hw7.out, Hw16.out⟩ : SprS g2 k w7 w16 w_e_2_3)
            refine ⟨_, rfl, S_e_2_3.out, ?_⟩
            try simp only [Act.put, List.setIfInBounds_toArray, List.set_cons_succ, List.set_cons_zero]
            refine Agg.held_take 6 (vW (mixP w2 [17, 19] ^^^ (w2 >>> 10))) rfl (by kernel_rfl) (fun _ _ _ h => h) rfl (fun W _ => exec_xorW rfl rfl rfl) (by assumption) ?_
            try simp only [Act.put, List.setIfInBounds_toArray, List.set_cons_succ, List.set_cons_zero]
            refine Agg.held_take 11 (vW ((mixP w2 [17, 19] ^^^ (w2 >>> 10)) + w7)) rfl (by kernel_rfl) (fun _ _ _ h => h) rfl (fun W _ => exec_addW rfl rfl rfl) (by assumption) ?_
            try simp only [Act.put, List.setIfInBounds_toArray, List.set_cons_succ, List.set_cons_zero]
            refine Agg.held_ready [13] (by kernel_rfl) (by simp) ?_
            refine Agg.held_cons rfl ?_ ?_
            · refine Agg.step_slice2 (E := EI) rfl _ _ rfl 7 18 rfl rfl ?_
              intro vb w_e_2_3_13 hs hx
              have K_e_2_3_13 := Lib.hid (Agg.belowThen K_e_2_3.out (Nat.le_refl _) hx)
              have G_e_2_3_13 := Lib.hid (G_e_2_3.out.below hx)
              have Vvb_e_2_3_13 := Lib.hid hs
              clear hs hx
              have S_e_2_3_13 := Lib.hid (⟨_, G_e_2_3_13.out, Hw7.out, Hw16.out⟩ : SprS g2 k w7 w16 w_e_2_3_13)
              refine ⟨S_e_2_3_13.out, ?_⟩
              try simp only [Act.put, List.setIfInBounds_toArray, List.set_cons_succ, List.set_cons_zero]
              refine Agg.held_ready [14] (by kernel_rfl) (by simp) ?_
              refine Agg.held_cons rfl ?_ ?_
              · refine Agg.step_call rfl 84 _ _ rfl #[vW w15, vb] (by simp only [List.map_toArray, List.map_cons, List.map_nil]; rfl) (fun W => HEM.out _ W) ?_
                refine (mixed_any w15 vb [7, 18] (by decide) (by decide) w_e_2_3_13 Vvb_e_2_3_13.out).mono ?_
                rintro e w_e_2_3_13_14 ⟨rfl, hx⟩
                have K_e_2_3_13_14 := Lib.hid (Agg.belowThen K_e_2_3_13.out (Nat.le_refl _) hx)
                have G_e_2_3_13_14 := Lib.hid (G_e_2_3_13.out.below hx)
                clear hx
                have S_e_2_3_13_14 := Lib.hid (⟨_, G_e_2_3_13_14.out, Hw7.out, Hw16.out⟩ : SprS g2 k w7 w16 w_e_2_3_13_14)
                refine ⟨_, rfl, S_e_2_3_13_14.out, ?_⟩
                try simp only [Act.put, List.setIfInBounds_toArray, List.set_cons_succ, List.set_cons_zero]
                refine Agg.held_take 17 (vW (mixP w15 [7, 18] ^^^ (w15 >>> 3))) rfl (by kernel_rfl) (fun _ _ _ h => h) rfl (fun W _ => exec_xorW rfl rfl rfl) (by assumption) ?_
                try simp only [Act.put, List.setIfInBounds_toArray, List.set_cons_succ, List.set_cons_zero]
                refine Agg.held_take 18 (vW ((mixP w2 [17, 19] ^^^ (w2 >>> 10)) + w7 + (mixP w15 [7, 18] ^^^ (w15 >>> 3)))) rfl (by kernel_rfl) (fun _ _ _ h => h) rfl (fun W _ => exec_addW rfl rfl rfl) (by assumption) ?_
                try simp only [Act.put, List.setIfInBounds_toArray, List.set_cons_succ, List.set_cons_zero]
                refine Agg.held_take 23 (vW (nextW (words bs k))) rfl (by kernel_rfl) (fun _ _ _ h => h) rfl (fun W _ => by rw [← HNW.out]; exact exec_addW rfl rfl rfl) (by assumption) ?_
                try simp only [Act.put, List.setIfInBounds_toArray, List.set_cons_succ, List.set_cons_zero]
                refine Agg.held_take 24 (.pointer (some ⟨g2, k, none⟩)) rfl (by kernel_rfl) (fun _ _ _ h => h) rfl (fun W _ => exec_idx rfl rfl rfl (HIG.out k (by omega) W)) (by assumption) ?_
                try simp only [Act.put, List.setIfInBounds_toArray, List.set_cons_succ, List.set_cons_zero]
                refine Agg.held_ready [25] (by kernel_rfl) (by simp) ?_
                refine Agg.held_cons rfl ?_ ?_
                · obtain ⟨w_e_2_3_13_14_25, hrun, hb, ho⟩ := Blk.run_one (P := Try.prog) (ty := 137) G_e_2_3_13_14.out k (by rw [wC_size]; simp [words_length]; omega) (vW (nextW (words bs k))) rfl rfl (by kernel_rfl) (wC (words bs (k + 1) ++ List.replicate (64 - (k + 1)) 0)) (by rw [wC_set, HNX.out])
                  refine Agg.step_store rfl rfl 137 _ _ rfl (.pointer (some ⟨g2, k, none⟩)) (vW (nextW (words bs k))) rfl rfl hrun ?_
                  have K_e_2_3_13_14_25 := Lib.hid (K_e_2_3_13_14.out.trans (ho.below (B := w.heap.size) K_e_2_3_13_14.out.size (fun i hi => by subst hi; exact HG2.out)))
                  have B_e_2_3_13_14_25 := Lib.hid hb
                  have S_e_2_3_13_14_25 := Lib.hid (⟨_, hb, by rw [← HNX.out, List.getElem?_set_ne (by omega)]; exact Hw7.out, by rw [← HNX.out, List.getElem?_set_ne (by omega)]; exact Hw16.out⟩ : SprS g2 k w7 w16 w_e_2_3_13_14_25)
                  clear hrun hb ho
                  refine ⟨S_e_2_3_13_14_25.out, ?_⟩
                  try simp only [Act.put, List.setIfInBounds_toArray, List.set_cons_succ, List.set_cons_zero]
                  refine Agg.held_end (by kernel_rfl) ?_
                  go_wp2_with fail
                  go_roundw
                  case rel => exact ⟨k + 1, by omega, by go_num, B_e_2_3_13_14_25.out, K_e_2_3_13_14_25.out⟩
                  case measure => simp [intOf]; omega
                exact AllReadyH.nil
              exact AllReadyH.nil
            exact AllReadyH.nil
          refine Agg.held_cons rfl ?_ ?_
          · refine Agg.step_slice2 (E := EI) rfl _ _ rfl 7 18 rfl rfl ?_
            intro vb w_e_2_13 hs hx
            have K_e_2_13 := Lib.hid (Agg.belowThen K_e_2.out (Nat.le_refl _) hx)
            have G_e_2_13 := Lib.hid (G_e_2.out.below hx)
            have Vva_e_2_13 := Lib.hid (Vva_e_2.out.below hx)
            have Vvb_e_2_13 := Lib.hid hs
            clear hs hx
            have S_e_2_13 := Lib.hid (⟨_, G_e_2_13.out, Hw7.out, Hw16.out⟩ : SprS g2 k w7 w16 w_e_2_13)
            refine ⟨S_e_2_13.out, ?_⟩
            try simp only [Act.put, List.setIfInBounds_toArray, List.set_cons_succ, List.set_cons_zero]
            refine Agg.held_ready [3] (by kernel_rfl) (by simp) ?_
            refine Agg.held_cons rfl ?_ ?_
            · refine Agg.step_call rfl 84 _ _ rfl #[vW w2, va] (by simp only [List.map_toArray, List.map_cons, List.map_nil]; rfl) (fun W => HEM.out _ W) ?_
              refine (mixed_any w2 va [17, 19] (by decide) (by decide) w_e_2_13 Vva_e_2_13.out).mono ?_
              rintro e w_e_2_13_3 ⟨rfl, hx⟩
              have K_e_2_13_3 := Lib.hid (Agg.belowThen K_e_2_13.out (Nat.le_refl _) hx)
              have G_e_2_13_3 := Lib.hid (G_e_2_13.out.below hx)
              have Vvb_e_2_13_3 := Lib.hid (Vvb_e_2_13.out.below hx)
              clear hx
              have S_e_2_13_3 := Lib.hid (⟨_, G_e_2_13_3.out, Hw7.out, Hw16.out⟩ : SprS g2 k w7 w16 w_e_2_13_3)
              refine ⟨_, rfl, S_e_2_13_3.out, ?_⟩
              try simp only [Act.put, List.setIfInBounds_toArray, List.set_cons_succ, List.set_cons_zero]
              refine Agg.held_take 6 (vW (mixP w2 [17, 19] ^^^ (w2 >>> 10))) rfl (by kernel_rfl) (fun _ _ _ h => h) rfl (fun W _ => exec_xorW rfl rfl rfl) (by assumption) ?_
              try simp only [Act.put, List.setIfInBounds_toArray, List.set_cons_succ, List.set_cons_zero]
              refine Agg.held_take 11 (vW ((mixP w2 [17, 19] ^^^ (w2 >>> 10)) + w7)) rfl (by kernel_rfl) (fun _ _ _ h => h) rfl (fun W _ => exec_addW rfl rfl rfl) (by assumption) ?_
              try simp only [Act.put, List.setIfInBounds_toArray, List.set_cons_succ, List.set_cons_zero]
              refine Agg.held_ready [14] (by kernel_rfl) (by simp) ?_
              refine Agg.held_cons rfl ?_ ?_
              · refine Agg.step_call rfl 84 _ _ rfl #[vW w15, vb] (by simp only [List.map_toArray, List.map_cons, List.map_nil]; rfl) (fun W => HEM.out _ W) ?_
                refine (mixed_any w15 vb [7, 18] (by decide) (by decide) w_e_2_13_3 Vvb_e_2_13_3.out).mono ?_
                rintro e w_e_2_13_3_14 ⟨rfl, hx⟩
                have K_e_2_13_3_14 := Lib.hid (Agg.belowThen K_e_2_13_3.out (Nat.le_refl _) hx)
                have G_e_2_13_3_14 := Lib.hid (G_e_2_13_3.out.below hx)
                clear hx
                have S_e_2_13_3_14 := Lib.hid (⟨_, G_e_2_13_3_14.out, Hw7.out, Hw16.out⟩ : SprS g2 k w7 w16 w_e_2_13_3_14)
                refine ⟨_, rfl, S_e_2_13_3_14.out, ?_⟩
                try simp only [Act.put, List.setIfInBounds_toArray, List.set_cons_succ, List.set_cons_zero]
                refine Agg.held_take 17 (vW (mixP w15 [7, 18] ^^^ (w15 >>> 3))) rfl (by kernel_rfl) (fun _ _ _ h => h) rfl (fun W _ => exec_xorW rfl rfl rfl) (by assumption) ?_
                try simp only [Act.put, List.setIfInBounds_toArray, List.set_cons_succ, List.set_cons_zero]
                refine Agg.held_take 18 (vW ((mixP w2 [17, 19] ^^^ (w2 >>> 10)) + w7 + (mixP w15 [7, 18] ^^^ (w15 >>> 3)))) rfl (by kernel_rfl) (fun _ _ _ h => h) rfl (fun W _ => exec_addW rfl rfl rfl) (by assumption) ?_
                try simp only [Act.put, List.setIfInBounds_toArray, List.set_cons_succ, List.set_cons_zero]
                refine Agg.held_take 23 (vW (nextW (words bs k))) rfl (by kernel_rfl) (fun _ _ _ h => h) rfl (fun W _ => by rw [← HNW.out]; exact exec_addW rfl rfl rfl) (by assumption) ?_
                try simp only [Act.put, List.setIfInBounds_toArray, List.set_cons_succ, List.set_cons_zero]
                refine Agg.held_take 24 (.pointer (some ⟨g2, k, none⟩)) rfl (by kernel_rfl) (fun _ _ _ h => h) rfl (fun W _ => exec_idx rfl rfl rfl (HIG.out k (by omega) W)) (by assumption) ?_
                try simp only [Act.put, List.setIfInBounds_toArray, List.set_cons_succ, List.set_cons_zero]
                refine Agg.held_ready [25] (by kernel_rfl) (by simp) ?_
                refine Agg.held_cons rfl ?_ ?_
                · obtain ⟨w_e_2_13_3_14_25, hrun, hb, ho⟩ := Blk.run_one (P := Try.prog) (ty := 137) G_e_2_13_3_14.out k (by rw [wC_size]; simp [words_length]; omega) (vW (nextW (words bs k))) rfl rfl (by kernel_rfl) (wC (words bs (k + 1) ++ List.replicate (64 - (k + 1)) 0)) (by rw [wC_set, HNX.out])
                  refine Agg.step_store rfl rfl 137 _ _ rfl (.pointer (some ⟨g2, k, none⟩)) (vW (nextW (words bs k))) rfl rfl hrun ?_
                  have K_e_2_13_3_14_25 := Lib.hid (K_e_2_13_3_14.out.trans (ho.below (B := w.heap.size) K_e_2_13_3_14.out.size (fun i hi => by subst hi; exact HG2.out)))
                  have B_e_2_13_3_14_25 := Lib.hid hb
                  have S_e_2_13_3_14_25 := Lib.hid (⟨_, hb, by rw [← HNX.out, List.getElem?_set_ne (by omega)]; exact Hw7.out, by rw [← HNX.out, List.getElem?_set_ne (by omega)]; exact Hw16.out⟩ : SprS g2 k w7 w16 w_e_2_13_3_14_25)
                  clear hrun hb ho
                  refine ⟨S_e_2_13_3_14_25.out, ?_⟩
                  try simp only [Act.put, List.setIfInBounds_toArray, List.set_cons_succ, List.set_cons_zero]
                  refine Agg.held_end (by kernel_rfl) ?_
                  go_wp2_with fail
                  go_roundw
                  case rel => exact ⟨k + 1, by omega, by go_num, B_e_2_13_3_14_25.out, K_e_2_13_3_14_25.out⟩
                  case measure => simp [intOf]; omega
                exact AllReadyH.nil
              exact AllReadyH.nil
            exact AllReadyH.nil
          exact AllReadyH.nil
        refine Agg.held_cons rfl ?_ ?_
        · refine Agg.step_slice2 (E := EI) rfl _ _ rfl 7 18 rfl rfl ?_
          intro vb w_e_13 hs hx
          have K_e_13 := Lib.hid (Agg.belowThen K_e.out (Nat.le_refl _) hx)
          have G_e_13 := Lib.hid (G_e.out.below hx)
          have Vvb_e_13 := Lib.hid hs
          clear hs hx
          have S_e_13 := Lib.hid (⟨_, G_e_13.out, Hw7.out, Hw16.out⟩ : SprS g2 k w7 w16 w_e_13)
          refine ⟨S_e_13.out, ?_⟩
          try simp only [Act.put, List.setIfInBounds_toArray, List.set_cons_succ, List.set_cons_zero]
          refine Agg.held_ready [2] (by kernel_rfl) (by simp) ?_
          refine Agg.held_cons rfl ?_ ?_
          · refine Agg.step_slice2 (E := EI) rfl _ _ rfl 17 19 rfl rfl ?_
            intro va w_e_13_2 hs hx
            have K_e_13_2 := Lib.hid (Agg.belowThen K_e_13.out (Nat.le_refl _) hx)
            have G_e_13_2 := Lib.hid (G_e_13.out.below hx)
            have Vva_e_13_2 := Lib.hid hs
            have Vvb_e_13_2 := Lib.hid (Vvb_e_13.out.below hx)
            clear hs hx
            have S_e_13_2 := Lib.hid (⟨_, G_e_13_2.out, Hw7.out, Hw16.out⟩ : SprS g2 k w7 w16 w_e_13_2)
            refine ⟨S_e_13_2.out, ?_⟩
            try simp only [Act.put, List.setIfInBounds_toArray, List.set_cons_succ, List.set_cons_zero]
            refine Agg.held_ready [3] (by kernel_rfl) (by simp) ?_
            refine Agg.held_cons rfl ?_ ?_
            · refine Agg.step_call rfl 84 _ _ rfl #[vW w2, va] (by simp only [List.map_toArray, List.map_cons, List.map_nil]; rfl) (fun W => HEM.out _ W) ?_
              refine (mixed_any w2 va [17, 19] (by decide) (by decide) w_e_13_2 Vva_e_13_2.out).mono ?_
              rintro e w_e_13_2_3 ⟨rfl, hx⟩
              have K_e_13_2_3 := Lib.hid (Agg.belowThen K_e_13_2.out (Nat.le_refl _) hx)
              have G_e_13_2_3 := Lib.hid (G_e_13_2.out.below hx)
              have Vvb_e_13_2_3 := Lib.hid (Vvb_e_13_2.out.below hx)
              clear hx
              have S_e_13_2_3 := Lib.hid (⟨_, G_e_13_2_3.out, Hw7.out, Hw16.out⟩ : SprS g2 k w7 w16 w_e_13_2_3)
              refine ⟨_, rfl, S_e_13_2_3.out, ?_⟩
              try simp only [Act.put, List.setIfInBounds_toArray, List.set_cons_succ, List.set_cons_zero]
              refine Agg.held_take 6 (vW (mixP w2 [17, 19] ^^^ (w2 >>> 10))) rfl (by kernel_rfl) (fun _ _ _ h => h) rfl (fun W _ => exec_xorW rfl rfl rfl) (by assumption) ?_
              try simp only [Act.put, List.setIfInBounds_toArray, List.set_cons_succ, List.set_cons_zero]
              refine Agg.held_take 11 (vW ((mixP w2 [17, 19] ^^^ (w2 >>> 10)) + w7)) rfl (by kernel_rfl) (fun _ _ _ h => h) rfl (fun W _ => exec_addW rfl rfl rfl) (by assumption) ?_
              try simp only [Act.put, List.setIfInBounds_toArray, List.set_cons_succ, List.set_cons_zero]
              refine Agg.held_ready [14] (by kernel_rfl) (by simp) ?_
              refine Agg.held_cons rfl ?_ ?_
              · refine Agg.step_call rfl 84 _ _ rfl #[vW w15, vb] (by simp only [List.map_toArray, List.map_cons, List.map_nil]; rfl) (fun W => HEM.out _ W) ?_
                refine (mixed_any w15 vb [7, 18] (by decide) (by decide) w_e_13_2_3 Vvb_e_13_2_3.out).mono ?_
                rintro e w_e_13_2_3_14 ⟨rfl, hx⟩
                have K_e_13_2_3_14 := Lib.hid (Agg.belowThen K_e_13_2_3.out (Nat.le_refl _) hx)
                have G_e_13_2_3_14 := Lib.hid (G_e_13_2_3.out.below hx)
                clear hx
                have S_e_13_2_3_14 := Lib.hid (⟨_, G_e_13_2_3_14.out, Hw7.out, Hw16.out⟩ : SprS g2 k w7 w16 w_e_13_2_3_14)
                refine ⟨_, rfl, S_e_13_2_3_14.out, ?_⟩
                try simp only [Act.put, List.setIfInBounds_toArray, List.set_cons_succ, List.set_cons_zero]
                refine Agg.held_take 17 (vW (mixP w15 [7, 18] ^^^ (w15 >>> 3))) rfl (by kernel_rfl) (fun _ _ _ h => h) rfl (fun W _ => exec_xorW rfl rfl rfl) (by assumption) ?_
                try simp only [Act.put, List.setIfInBounds_toArray, List.set_cons_succ, List.set_cons_zero]
                refine Agg.held_take 18 (vW ((mixP w2 [17, 19] ^^^ (w2 >>> 10)) + w7 + (mixP w15 [7, 18] ^^^ (w15 >>> 3)))) rfl (by kernel_rfl) (fun _ _ _ h => h) rfl (fun W _ => exec_addW rfl rfl rfl) (by assumption) ?_
                try simp only [Act.put, List.setIfInBounds_toArray, List.set_cons_succ, List.set_cons_zero]
                refine Agg.held_take 23 (vW (nextW (words bs k))) rfl (by kernel_rfl) (fun _ _ _ h => h) rfl (fun W _ => by rw [← HNW.out]; exact exec_addW rfl rfl rfl) (by assumption) ?_
                try simp only [Act.put, List.setIfInBounds_toArray, List.set_cons_succ, List.set_cons_zero]
                refine Agg.held_take 24 (.pointer (some ⟨g2, k, none⟩)) rfl (by kernel_rfl) (fun _ _ _ h => h) rfl (fun W _ => exec_idx rfl rfl rfl (HIG.out k (by omega) W)) (by assumption) ?_
                try simp only [Act.put, List.setIfInBounds_toArray, List.set_cons_succ, List.set_cons_zero]
                refine Agg.held_ready [25] (by kernel_rfl) (by simp) ?_
                refine Agg.held_cons rfl ?_ ?_
                · obtain ⟨w_e_13_2_3_14_25, hrun, hb, ho⟩ := Blk.run_one (P := Try.prog) (ty := 137) G_e_13_2_3_14.out k (by rw [wC_size]; simp [words_length]; omega) (vW (nextW (words bs k))) rfl rfl (by kernel_rfl) (wC (words bs (k + 1) ++ List.replicate (64 - (k + 1)) 0)) (by rw [wC_set, HNX.out])
                  refine Agg.step_store rfl rfl 137 _ _ rfl (.pointer (some ⟨g2, k, none⟩)) (vW (nextW (words bs k))) rfl rfl hrun ?_
                  have K_e_13_2_3_14_25 := Lib.hid (K_e_13_2_3_14.out.trans (ho.below (B := w.heap.size) K_e_13_2_3_14.out.size (fun i hi => by subst hi; exact HG2.out)))
                  have B_e_13_2_3_14_25 := Lib.hid hb
                  have S_e_13_2_3_14_25 := Lib.hid (⟨_, hb, by rw [← HNX.out, List.getElem?_set_ne (by omega)]; exact Hw7.out, by rw [← HNX.out, List.getElem?_set_ne (by omega)]; exact Hw16.out⟩ : SprS g2 k w7 w16 w_e_13_2_3_14_25)
                  clear hrun hb ho
                  refine ⟨S_e_13_2_3_14_25.out, ?_⟩
                  try simp only [Act.put, List.setIfInBounds_toArray, List.set_cons_succ, List.set_cons_zero]
                  refine Agg.held_end (by kernel_rfl) ?_
                  go_wp2_with fail
                  go_roundw
                  case rel => exact ⟨k + 1, by omega, by go_num, B_e_13_2_3_14_25.out, K_e_13_2_3_14_25.out⟩
                  case measure => simp [intOf]; omega
                exact AllReadyH.nil
              exact AllReadyH.nil
            exact AllReadyH.nil
          exact AllReadyH.nil
        exact AllReadyH.nil
    · obtain rfl : k = 64 := by omega
      have HB6 := Lib.hid (show Blk wr1 g2 148 (wC (words bs 64)) by have := HB.out; rwa [show List.replicate (64 - 64) (0 : W) = [] from rfl, List.append_nil] at this)
      have HLD := Lib.hid (HB6.out.loads (P := Try.prog) Try.underlying148 rfl (w64_info _ (words_length _ _)))
      go_wp2_with (first | (with_reducible refine wpList_loadL HLD.out rfl _ rfl rfl ?_) | ((with_reducible refine wpList_put rfl rfl 148 _ _ rfl g2 (wC (words bs 64)) (wC (words bs 64)) rfl rfl HB6.out (w64_info _ (words_length _ _)) rfl (wC_one _) ?_); intro w7 hb7 hx7 _ _; have HB7 := Lib.hid hb7; have HX7 := Lib.hid (HW.out.trans (hx7.mono HG2.out)); clear hb7 hx7))
      exact post_row rfl rfl HB7.out Try.underlying148 rfl (w64_info _ (words_length _ _)) rfl ⟨rfl, HX7.out⟩
end Go.Proofs.Ytgekpghjlhcpkaa
/-! What hash.block, take and end need: a sponge's cells. -/
namespace Go.Agg
open Go.RowKit
theorem step_copyV {P : Program} {ops : Array Oper} {o : Oper} {a : Act} {w w' : World} {Q : Exit → Act → World → Prop} {K : Act → World → Prop} {F : Prop} {dT sT : TypeId} (hg : o.guard = none) (d s : Operand) (ho : o.op = .call { callee := .builtin .copy, args := #[d, s], argTypes := #[dT, sT] }) (vd vs : Value) (hd : a.eval d = vd) (hs : a.eval s = vs) {v : Value}
    (hrun : (Builtin.copy_ #[dT, sT] o.type #[vd, vs]).run P w = .ok v w') (h : K (a.put o.dst v) w') : if Region.wanted o (yielded ops a.tmps) = true then o.wp P a w K Q else F :=
  step_val hg (by simp [execOp, ho, resolve, invoke, builtin, hd, hs, hrun]) h
theorem exec_index {P : Program} {o : Oper} {a : Act} {w : World} {t : TypeId} {x y : Operand} {vx vy v : Value} (ho : o.op = .index t x y) (hx : a.eval x = vx) (hy : a.eval y = vy) (hr : (Instr.index t vx vy).run P w = .ok v w) : (execOp a.eval o).run P w = .ok (.value v) w := by simp [execOp, ho, hx, hy, hr]
end Go.Agg
namespace Go.Proofs.Ytgekpghjlhcpkaa
open Go.RowKit Pl Go.Agg Go.Sha
section
variable {ops : Array Oper} {o : Oper} {a : Act} {w : World}
theorem run_ints3 (k m n : Nat) (w : World) : (Instr.buildSlice 123 3 #[(0, Value.int .i64 (k : Int)), (1, Value.int .i64 (m : Int)), (2, Value.int .i64 (n : Int))]).run Try.prog w = .ok (.slice (some ⟨w.heap.size, 0, none⟩) 3 3) (w.alloc (.cells #[Value.int .i64 (k : Int), Value.int .i64 (m : Int), Value.int .i64 (n : Int)] 3)) := by kernel_rfl
theorem ints3_at (k m n : Nat) (w : World) : SliceOf EI (w.alloc (.cells #[Value.int .i64 (k : Int), Value.int .i64 (m : Int), Value.int .i64 (n : Int)] 3)) (.slice (some ⟨w.heap.size, 0, none⟩) 3 3) [k, m, n] :=
  Own.slice (base := w.heap.size) ⟨rfl, .inr ⟨w.heap.size, 3, #[Value.int .i64 (k : Int), Value.int .i64 (m : Int), Value.int .i64 (n : Int)], rfl, Nat.le_refl _, heap_alloc_new w _, Nat.le_refl _, by decide, rfl, rfl⟩⟩
theorem Agg.step_ints3 {Q : Exit → Act → World → Prop} {K : Act → World → Prop} {F : Prop} (hg : o.guard = none) (x y z : Operand) (ho : o.op = .buildSlice 123 3 #[(0, x), (1, y), (2, z)]) (k m n : Nat) (hx : a.eval x = .int .i64 (k : Int)) (hy : a.eval y = .int .i64 (m : Int)) (hz : a.eval z = .int .i64 (n : Int))
    (h : ∀ v' w', SliceOf EI w' v' [k, m, n] → Below w.heap.size w w' → K (a.put o.dst v') w') : if Region.wanted o (yielded ops a.tmps) = true then o.wp Try.prog a w K Q else F :=
  step_val hg (v := .slice (some ⟨w.heap.size, 0, none⟩) 3 3) (by simp [execOp, ho, hx, hy, hz, run_ints3]) (h _ _ (ints3_at k m n w) ((Below.refl _ _).alloc (Nat.le_refl _) _))
theorem wpList_ints3 {rest : List Oper} {Q : Exit → Act → World → Prop} (hg : Region.wanted o (yielded ops a.tmps) = true) (x y z : Operand) (ho : o.op = .buildSlice 123 3 #[(0, x), (1, y), (2, z)]) (k m n : Nat) (hx : a.eval x = .int .i64 (k : Int)) (hy : a.eval y = .int .i64 (m : Int)) (hz : a.eval z = .int .i64 (n : Int))
    (h : ∀ v' w', SliceOf EI w' v' [k, m, n] → Below w.heap.size w w' → wpList Try.prog ops Q rest (a.put o.dst v') w') : wpList Try.prog ops Q (o :: rest) a w :=
  wpList_valw hg (v := .slice (some ⟨w.heap.size, 0, none⟩) 3 3) (by simp [execOp, ho, hx, hy, hz, run_ints3]) (h _ _ (ints3_at k m n w) ((Below.refl _ _).alloc (Nat.le_refl _) _))
end
theorem Blk.other {w w' : World} {g gx : Nat} {t : TypeId} {cs : Array Value} (h : Blk w g t cs) (hk : ∀ k, k ≠ gx → w'.heap[k]? = w.heap[k]?) (hne : g ≠ gx) : Blk w' g t cs := (hk g hne).trans h
/-- a sponge's cells: eight words, sixty-four bytes, how many there were -/
def spL (l : List W) (bs : List UInt8) (m : Nat) : Array Value := (l.map vW ++ (Lib.byteCells bs ++ [Value.int .u64 (m : Int)])).toArray
theorem bc_length (bs : List UInt8) : (Lib.byteCells bs).length = bs.length := by simp [Lib.byteCells]
theorem spL_size (l : List W) (bs : List UInt8) (m : Nat) (hl : l.length = 8) (hbs : bs.length = 64) : (spL l bs m).size = 73 := by simp [spL, bc_length, hl, hbs]
theorem spL_lo (l : List W) (bs : List UInt8) (m : Nat) (i : Nat) (v : Value) (h : (wC l)[i]? = some v) : (spL l bs m)[i]? = some v := by
  have hi := (Array.getElem?_eq_some_iff.1 h).1
  simp only [wC, List.size_toArray, List.length_map] at hi
  simp only [spL, wC, List.getElem?_toArray] at h ⊢
  rw [List.getElem?_append_left (by rw [List.length_map]; exact hi)]
  exact h
theorem spL_byte (l : List W) (bs : List UInt8) (m : Nat) (hl : l.length = 8) (i : Nat) (c : UInt8) (h : bs[i]? = some c) : (spL l bs m)[8 + i]? = some (.int .u8 (c.toNat : Int)) := by
  have hi := (List.getElem?_eq_some_iff.1 h).1
  simp only [spL, List.getElem?_toArray]
  rw [List.getElem?_append_right (by rw [List.length_map, hl]; omega), List.length_map, hl, show 8 + i - 8 = i by omega, List.getElem?_append_left (by rw [bc_length]; exact hi)]
  simp [Lib.byteCells, h]
theorem spL_many (l : List W) (bs : List UInt8) (m : Nat) (hl : l.length = 8) (hbs : bs.length = 64) : (spL l bs m)[72]? = some (.int .u64 (m : Int)) := by
  simp only [spL, List.getElem?_toArray]
  rw [List.getElem?_append_right (by rw [List.length_map, hl]; omega), List.length_map, hl, List.getElem?_append_right (by rw [bc_length, hbs]; omega), bc_length, hbs]
  rfl
theorem spL_set (l : List W) (bs : List UInt8) (m i : Nat) (x : W) (hi : i < l.length) : (spL l bs m).setIfInBounds i (vW x) = spL (l.set i x) bs m := by
  simp only [spL, List.setIfInBounds_toArray, List.map_set]
  rw [List.set_append_left _ _ (by rw [List.length_map]; exact hi)]
section
variable {w : World} {g : Nat} {l : List W} {bs : List UInt8} {m : Nat}
theorem spL_bytes (h : Blk w g 143 (spL l bs m)) (hl : l.length = 8) : BytesIn w g 8 bs := fun i c hc => h.one (P := Try.prog) (8 + i) (spL_byte l bs m hl i c hc) Try.underlying5 rfl
theorem spL_word (h : Blk w g 143 (spL l bs m)) {i : Nat} {x : W} (hx : l[i]? = some x) : LoadsL Try.prog w 137 (some ⟨g, i, none⟩) (vW x) := h.one (P := Try.prog) i (spL_lo _ _ _ _ _ (wC_get l i x hx)) Try.underlying137 rfl
theorem spL_state (h : Blk w g 143 (spL l bs m)) (hl : l.length = 8) : LoadsL Try.prog w 139 (some ⟨g, 0, none⟩) (.agg (wC l)) :=
  LoadsL.of_cells h.lt (fun j v hj => by rw [add_plain, h.cell, Nat.zero_add]; exact spL_lo _ _ _ _ _ hj) Try.underlying139 rfl (w8_info _ hl)
end
/-- the words that are turned, the rounds' words, the block's -/
structure RndS (g4 g5 g6 : Nat) (kl ws l : List W) (u : World) : Prop where
  bx : Blk u g6 139 (wC l)
  bk : Blk u g4 148 (wC kl)
  bw : Blk u g5 148 (wC ws)
section
variable {g4 g5 g6 : Nat} {kl ws l : List W} {u u' : World}
theorem RndS.below (h : RndS g4 g5 g6 kl ws l u) (hb : Below u.heap.size u u') : RndS g4 g5 g6 kl ws l u' := ⟨h.bx.below hb, h.bk.below hb, h.bw.below hb⟩
theorem RndS.x (h : RndS g4 g5 g6 kl ws l u) (i : Nat) (x : W) (hx : l[i]? = some x) : LoadsL Try.prog u 137 (some ⟨g6, i, none⟩) (vW x) := h.bx.one (P := Try.prog) i (wC_get _ _ _ hx) Try.underlying137 rfl
theorem RndS.k (h : RndS g4 g5 g6 kl ws l u) (i : Nat) (x : W) (hx : kl[i]? = some x) : LoadsL Try.prog u 137 (some ⟨g4, i, none⟩) (vW x) := h.bk.one (P := Try.prog) i (wC_get _ _ _ hx) Try.underlying137 rfl
theorem RndS.w (h : RndS g4 g5 g6 kl ws l u) (i : Nat) (x : W) (hx : ws[i]? = some x) : LoadsL Try.prog u 137 (some ⟨g5, i, none⟩) (vW x) := h.bw.one (P := Try.prog) i (wC_get _ _ _ hx) Try.underlying137 rfl
theorem RndS.cells {x0 x1 x2 x3 x4 x5 x6 x7 : W} (h : RndS g4 g5 g6 kl ws [x0, x1, x2, x3, x4, x5, x6, x7] u) (j : Nat) (v : Value) (hj : ([x0, x1, x2, x3, x4, x5, x6].map vW)[j]? = some v) : u.cell? ((⟨g6, 0, none⟩ : Addr).add j) = some v := by
  rw [add_plain, h.bx.cell, Nat.zero_add]
  have hi := (List.getElem?_eq_some_iff.1 hj).1
  simp only [List.length_map, List.length_cons, List.length_nil] at hi
  simp only [wC, List.getElem?_toArray]
  rw [show ([x0, x1, x2, x3, x4, x5, x6, x7] : List W).map vW = [x0, x1, x2, x3, x4, x5, x6].map vW ++ [vW x7] from rfl, List.getElem?_append_left (by simpa using hi)]
  exact hj
end
/-- words added, the first j -/
def addU (s x : List W) (j : Nat) : List W := (List.range 8).map fun i => if i < j then s.getD i 0 + x.getD i 0 else s.getD i 0
theorem addU_length (s x : List W) (j : Nat) : (addU s x j).length = 8 := by simp [addU]
theorem addU_zero (st : St) (x : List W) : addU st.list x 0 = st.list := by simp [addU, St.list, List.range, List.range.loop]
theorem addU_all (st x : St) : addU st.list x.list 8 = (add st x).list := by simp [addU, add, St.list, List.range, List.range.loop]
theorem addU_at {s x : List W} {j : Nat} {a : W} (h : s[j]? = some a) (hj : j < 8) : (addU s x j)[j]? = some a := by
  simp [addU, List.getElem?_range hj, List.getD, h]
theorem addU_next {s x : List W} {j : Nat} {a b : W} (h : s[j]? = some a) (hx : x[j]? = some b) (hj : j < 8) : (addU s x j).set j (a + b) = addU s x (j + 1) := by
  apply List.ext_getElem?
  intro i
  by_cases e : i = j
  · subst e
    rw [List.getElem?_set_self (by rw [addU_length]; exact hj)]
    simp [addU, List.getElem?_range hj, List.getD, h, hx]
  · rw [List.getElem?_set_ne (Ne.symm e)]
    simp only [addU, List.getElem?_map]
    by_cases hi : i < 8
    · simp only [List.getElem?_range hi, Option.map_some]
      by_cases h1 : i < j
      · simp [h1, show i < j + 1 by omega]
      · simp [h1, show ¬ i < j + 1 by omega]
    · rw [List.getElem?_eq_none (by simp; omega)]
      rfl
end Go.Proofs.Ytgekpghjlhcpkaa
