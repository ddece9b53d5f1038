/-
  The walk of runs.Quantize at every input, and of the function 'alive' of the statements of chapter 10: it returns true. No condition.
-/
import Derived.Test.YtcihombiijjndaaWalkC
import Derived.Test.YtcihombiijjndaaWalkF
import Derived.Test.YtcihombiijjndaaWalkG
import Derived.Test.YtcihombiijjndaaWalkJ
namespace Go.Proofs.Ytcihombiijjndaa
open Go.RowKit

theorem retI_nil (c : Int) (w : World) : RetI [] c w (.returned (.tuple #[.slice none 0 0, .int .i64 c])) w := ⟨_, rfl, World.ownsRow_nil _ _ _ _, Below.refl _ _⟩

set_option maxHeartbeats 800000 in
theorem quantize_any (a : Option Addr) (n cap : Nat) (zs : List Int) (T : Int) (w : World) (h : RdI w a n zs) :
    Calls Try.prog 19 #[.slice a n cap, .int .i64 T] w (RetI (quantize zs T).1 (quantize zs T).2 w) := by
  have hlen := h.length
  by_cases h0 : n = 0
  · subst h0
    have hm : quantize zs T = ([], 5) := by unfold quantize; rw [if_pos hlen]
    rw [hm]
    clear hm hlen h
    go_enter Try.func19, Try.ntmps19
    go_wp2
    go_ret2
    exact retI_nil 5 w
  have hb0 : ((n : Int) == 0) = false := beq_eq_false_iff_ne.2 (by omega)
  by_cases h4 : 65536 < n
  · have hm : quantize zs T = ([], 4) := by unfold quantize; rw [if_neg (by omega), if_pos (by omega)]
    rw [hm]
    clear hm hlen h
    go_enter Try.func19, Try.ntmps19
    go_wp2
    go_ret2
    exact retI_nil 4 w
  by_cases h3 : inR zs = false ∨ T < zs.length ∨ 65536 < T
  · have hm : quantize zs T = ([], 3) := by unfold quantize; rw [if_neg (by omega), if_neg (by omega), if_pos h3]
    rw [hm]
    have hir := inRange_any a n cap zs w h
    rw [hlen] at h3
    clear hm hlen h
    cases hr : inR zs with
    | false =>
      rw [hr] at hir
      clear h3 hr
      go_enter Try.func19, Try.ntmps19
      go_wp2_with fail
      refine hir.mono ?_
      rintro e w' ⟨rfl, rfl⟩
      go_wp2
      go_ret2
      exact retI_nil 3 w
    | true =>
      rw [hr] at hir h3
      have h3' : T < n ∨ 65536 < T := by simpa using h3
      clear h3 hr
      by_cases hT : T < n
      · have hd : decide (T < (n : Int)) = true := by simpa using hT
        go_enter Try.func19, Try.ntmps19
        go_wp2_with fail
        refine hir.mono ?_
        rintro e w' ⟨rfl, rfl⟩
        go_wp2
        go_ret2
        exact retI_nil 3 w
      · have hd : decide (T < (n : Int)) = false := by simpa using hT
        have hd2 : decide (65536 < T) = true := by simp; omega
        go_enter Try.func19, Try.ntmps19
        go_wp2_with fail
        refine hir.mono ?_
        rintro e w' ⟨rfl, rfl⟩
        go_wp2
        go_ret2
        exact retI_nil 3 w
  · have hm : quantize zs T = (quantR n (sumI zs) T zs, 0) := by unfold quantize; rw [if_neg (by omega), if_neg (by omega), if_neg h3, hlen]
    rw [hm]
    refine quantize_good a n cap zs _ T w h rfl (by omega) (by omega) ?_ (by omega) (by omega)
    cases hr : inR zs
    · exact absurd (.inl hr) h3
    · rfl

/-- A list laid anew. -/
theorem rd_new {e n : Nat} (w : World) (xs : List Value) (hn : xs.length = n) (hm : n ≤ 1000) : Rd (w.alloc (.cells xs.toArray e)) (some ⟨w.heap.size, 0, none⟩) n xs := by
  obtain ⟨a, cap, e1, hrd⟩ := ownsRow_rd (own_new (B := 0) (e := e) w xs n (Nat.zero_le _) hn.symm (by unfold maxLen; omega)) (by omega)
  cases e1; exact hrd

theorem below_lit {w w1 : World} {o : Obj} (h : Below (w.alloc o).heap.size (w.alloc o) w1) : Below w.heap.size w w1 :=
  ((Below.refl _ w).alloc (Nat.le_refl _) o).trans (h.mono (by simp))

theorem own_below {w w' : World} {B e size n : Nat} {v : Value} {xs : List Value} (h : w.ownsRow B e size v n xs) (hb : Below w.heap.size w w') : w'.ownsRow B e size v n xs := by
  refine h.kept (row := none) ⟨hb.os, hb.tape, hb.output, hb.size, fun k hk _ => hb.block k hk⟩ ?_
  cases v.ownBlock <;> simp

theorem below_tr {w w1 w2 : World} (h : Below w.heap.size w w1) (k : Below w1.heap.size w1 w2) : Below w.heap.size w w2 := h.trans (k.mono h.size)

theorem modules_lit (w : World) : Calls Try.prog 11 #[.slice (some ⟨w.heap.size, 0, none⟩) 3 3] (w.alloc (.cells #[.int .i64 2, .int .i64 1, .int .i64 1] 3)) fun e w' =>
    ∃ a c, e = .returned (.tuple #[.slice a 4 c, .int .i64 0]) ∧ RdB w' a 4 [true, true, false, true] ∧ Below w.heap.size w w' := by
  refine (modules_any _ _ _ [2, 1, 1] _ (rd_new w [.int .i64 2, .int .i64 1, .int .i64 1] rfl (by simp)) (by simp)).mono ?_
  rw [show modules [2, 1, 1] = ([true, true, false, true], 0) by decide +kernel]
  rintro e w1 ⟨v, rfl, hown, hb⟩
  obtain ⟨a, c, rfl, hrd⟩ := ownsRow_rd hown (by simp)
  exact ⟨a, c, rfl, hrd, below_lit hb⟩

theorem quantize_lit (w : World) : Calls Try.prog 19 #[.slice (some ⟨w.heap.size, 0, none⟩) 4 4, .int .i64 7] (w.alloc (.cells #[.int .i64 10, .int .i64 21, .int .i64 29, .int .i64 10] 3)) fun e w' =>
    ∃ a c, e = .returned (.tuple #[.slice a 4 c, .int .i64 0]) ∧ RdI w' a 4 [1, 2, 3, 1] ∧ Below w.heap.size w w' := by
  refine (quantize_any _ _ _ [10, 21, 29, 10] 7 _ (rd_new w [.int .i64 10, .int .i64 21, .int .i64 29, .int .i64 10] rfl (by simp))).mono ?_
  rw [show quantize [10, 21, 29, 10] 7 = ([1, 2, 3, 1], 0) by decide +kernel]
  rintro e w1 ⟨v, rfl, hown, hb⟩
  obtain ⟨a, c, rfl, hrd⟩ := ownsRow_rd hown (by simp)
  exact ⟨a, c, rfl, hrd, below_lit hb⟩

theorem wide_lit (w : World) : Calls Try.prog 25 #[.slice (some ⟨w.heap.size, 0, none⟩) 4 4] (w.alloc (.cells #[.int .i64 2, .int .i64 4, .int .i64 2, .int .i64 5] 3)) fun e w' =>
    ∃ a c, e = .returned (.tuple #[.slice a 4 c, .int .i64 0]) ∧ RdB w' a 4 [false, true, false, true] ∧ Below w.heap.size w w' := by
  refine (wide_ex _ _ _ (rd_new w [.int .i64 2, .int .i64 4, .int .i64 2, .int .i64 5] rfl (by simp))).mono ?_
  rintro e w1 ⟨v, rfl, hown, hb⟩
  obtain ⟨a, c, rfl, hrd⟩ := ownsRow_rd hown (by simp)
  exact ⟨a, c, rfl, hrd, below_lit hb⟩

theorem stretch_lit (w : World) : Calls Try.prog 21 #[.slice (some ⟨w.heap.size, 0, none⟩) 2 2, .int .i64 2] (w.alloc (.cells #[.bool true, .bool false] 4)) fun e w' =>
    ∃ a c, e = .returned (.tuple #[.slice a 4 c, .int .i64 0]) ∧ RdB w' a 4 [true, true, false, false] ∧ Below w.heap.size w w' := by
  refine (stretch_any _ _ _ [true, false] 2 _ (rd_new w [.bool true, .bool false] rfl (by simp)) (by simp) (by simp)).mono ?_
  rw [show stretch [true, false] 2 = ([true, true, false, false], 0) by decide +kernel]
  rintro e w1 ⟨v, rfl, hown, hb⟩
  obtain ⟨a, c, rfl, hrd⟩ := ownsRow_rd hown (by simp)
  exact ⟨a, c, rfl, hrd, below_lit hb⟩

theorem widths_lit (w : World) : Calls Try.prog 17 #[.slice (some ⟨w.heap.size, 0, none⟩) 7 7] (w.alloc (.cells #[.bool false, .bool true, .bool true, .bool false, .bool false, .bool false, .bool true] 4)) fun e w' =>
    ∃ a c, e = .returned (.slice a 3 c) ∧ RdI w' a 3 [2, 3, 1] ∧ Below w.heap.size w w' := by
  refine (widths_any _ _ _ [false, true, true, false, false, false, true] _ (rd_new w [.bool false, .bool true, .bool true, .bool false, .bool false, .bool false, .bool true] rfl (by simp)) (by simp)).mono ?_
  rw [show widths [false, true, true, false, false, false, true] = [2, 3, 1] by decide +kernel]
  rintro e w1 ⟨v, rfl, hown, hb⟩
  obtain ⟨a, c, rfl, hrd⟩ := ownsRow_rd hown (by simp)
  exact ⟨a, c, rfl, hrd, below_lit hb⟩

theorem margins_lit (w : World) : Calls Try.prog 14 #[.slice (some ⟨w.heap.size, 0, none⟩) 7 7] (w.alloc (.cells #[.bool false, .bool true, .bool true, .bool false, .bool false, .bool false, .bool true] 4)) fun e w' =>
    e = .returned (.tuple #[.int .i64 1, .int .i64 0]) ∧ Below w.heap.size w w' := by
  refine (margins_any _ _ _ [false, true, true, false, false, false, true] _ (rd_new w [.bool false, .bool true, .bool true, .bool false, .bool false, .bool false, .bool true] rfl (by simp))).mono ?_
  rw [show marg [false, true, true, false, false, false, true] = (1, 0) by decide +kernel]
  rintro e w1 ⟨rfl, rfl⟩
  exact ⟨rfl, below_lit (Below.refl _ _)⟩

theorem unit_lit (w : World) : Calls Try.prog 26 #[.slice (some ⟨w.heap.size, 0, none⟩) 2 2] (w.alloc (.cells #[.int .i64 4, .int .i64 6] 3)) fun e w' =>
    e = .returned (.int .i64 2) ∧ Below w.heap.size w w' := by
  refine (unit_ex _ _ _ (rd_new w [.int .i64 4, .int .i64 6] rfl (by simp))).mono ?_
  rintro e w1 ⟨rfl, hb⟩
  exact ⟨rfl, below_lit hb⟩

theorem same_m (a : Option Addr) (c : Nat) (w : World) (h : RdB w a 4 [true, true, false, true]) : Calls Try.prog 13 #[.slice a 4 c, .slice (some ⟨w.heap.size, 0, none⟩) 4 4] (w.alloc (.cells #[.bool true, .bool true, .bool false, .bool true] 4)) fun e w' =>
    e = .returned (.bool true) ∧ Below w.heap.size w w' := by
  refine (same_any _ _ _ _ _ _ [true, true, false, true] [true, true, false, true] _ (h.below ((Below.refl _ w).alloc (Nat.le_refl _) _)) (rd_new w [.bool true, .bool true, .bool false, .bool true] rfl (by simp))).mono ?_
  rintro e w1 ⟨rfl, hb⟩
  exact ⟨by simp, below_lit hb⟩

theorem ints_w (a : Option Addr) (c : Nat) (w : World) (h : RdI w a 3 [2, 3, 1]) : Calls Try.prog 16 #[.slice a 3 c, .slice (some ⟨w.heap.size, 0, none⟩) 3 3] (w.alloc (.cells #[.int .i64 2, .int .i64 3, .int .i64 1] 3)) fun e w' =>
    e = .returned (.bool true) ∧ Below w.heap.size w w' := by
  refine (ints_any _ _ _ _ _ _ [2, 3, 1] [2, 3, 1] _ (h.below ((Below.refl _ w).alloc (Nat.le_refl _) _)) (rd_new w [.int .i64 2, .int .i64 3, .int .i64 1] rfl (by simp))).mono ?_
  rintro e w1 ⟨rfl, hb⟩
  exact ⟨by simp, below_lit hb⟩

theorem ints_q (a : Option Addr) (c : Nat) (w : World) (h : RdI w a 4 [1, 2, 3, 1]) : Calls Try.prog 16 #[.slice a 4 c, .slice (some ⟨w.heap.size, 0, none⟩) 4 4] (w.alloc (.cells #[.int .i64 1, .int .i64 2, .int .i64 3, .int .i64 1] 3)) fun e w' =>
    e = .returned (.bool true) ∧ Below w.heap.size w w' := by
  refine (ints_any _ _ _ _ _ _ [1, 2, 3, 1] [1, 2, 3, 1] _ (h.below ((Below.refl _ w).alloc (Nat.le_refl _) _)) (rd_new w [.int .i64 1, .int .i64 2, .int .i64 3, .int .i64 1] rfl (by simp))).mono ?_
  rintro e w1 ⟨rfl, hb⟩
  exact ⟨by simp, below_lit hb⟩

theorem same_d (a : Option Addr) (c : Nat) (w : World) (h : RdB w a 4 [false, true, false, true]) : Calls Try.prog 13 #[.slice a 4 c, .slice (some ⟨w.heap.size, 0, none⟩) 4 4] (w.alloc (.cells #[.bool false, .bool true, .bool false, .bool true] 4)) fun e w' =>
    e = .returned (.bool true) ∧ Below w.heap.size w w' := by
  refine (same_any _ _ _ _ _ _ [false, true, false, true] [false, true, false, true] _ (h.below ((Below.refl _ w).alloc (Nat.le_refl _) _)) (rd_new w [.bool false, .bool true, .bool false, .bool true] rfl (by simp))).mono ?_
  rintro e w1 ⟨rfl, hb⟩
  exact ⟨by simp, below_lit hb⟩

theorem same_s (a : Option Addr) (c : Nat) (w : World) (h : RdB w a 4 [true, true, false, false]) : Calls Try.prog 13 #[.slice a 4 c, .slice (some ⟨w.heap.size, 0, none⟩) 4 4] (w.alloc (.cells #[.bool true, .bool true, .bool false, .bool false] 4)) fun e w' =>
    e = .returned (.bool true) ∧ Below w.heap.size w w' := by
  refine (same_any _ _ _ _ _ _ [true, true, false, false] [true, true, false, false] _ (h.below ((Below.refl _ w).alloc (Nat.le_refl _) _)) (rd_new w [.bool true, .bool true, .bool false, .bool false] rfl (by simp))).mono ?_
  rintro e w1 ⟨rfl, hb⟩
  exact ⟨by simp, below_lit hb⟩

set_option maxRecDepth 100000 in
set_option maxHeartbeats 4000000 in
theorem alive_any (w : World) : Calls Try.prog 10 #[] w fun e w' => e = .returned (.bool true) ∧ Below w.heap.size w w' := by
  go_enter Try.func10, Try.ntmps10
  go_wp2_with fail
  refine (modules_lit _).mono ?_
  rintro e w1 ⟨a1, c1, rfl, r1, b1⟩
  go_wp2_with fail
  refine (widths_lit _).mono ?_
  rintro e w2 ⟨a2, c2, rfl, r2, b2⟩
  replace r1 := r1.below b2
  replace b2 := below_tr b1 b2
  clear b1
  go_wp2_with fail
  refine (margins_lit _).mono ?_
  rintro e w3 ⟨rfl, b3⟩
  replace r1 := r1.below b3
  replace r2 := r2.below b3
  replace b3 := below_tr b2 b3
  clear b2
  go_wp2_with fail
  refine (quantize_lit _).mono ?_
  rintro e w4 ⟨a4, c4, rfl, r4, b4⟩
  replace r1 := r1.below b4
  replace r2 := r2.below b4
  replace b4 := below_tr b3 b4
  clear b3
  go_wp2_with fail
  refine (wide_lit _).mono ?_
  rintro e w5 ⟨a5, c5, rfl, r5, b5⟩
  replace r1 := r1.below b5
  replace r2 := r2.below b5
  replace r4 := r4.below b5
  replace b5 := below_tr b4 b5
  clear b4
  go_wp2_with fail
  refine (stretch_lit _).mono ?_
  rintro e w6 ⟨a6, c6, rfl, r6, b6⟩
  replace r1 := r1.below b6
  replace r2 := r2.below b6
  replace r4 := r4.below b6
  replace r5 := r5.below b6
  replace b6 := below_tr b5 b6
  clear b5
  go_wp2_with fail
  refine (same_m _ _ _ r1).mono ?_
  rintro e w7 ⟨rfl, b7⟩
  clear r1
  replace r2 := r2.below b7
  replace r4 := r4.below b7
  replace r5 := r5.below b7
  replace r6 := r6.below b7
  replace b7 := below_tr b6 b7
  clear b6
  go_wp2_with fail
  refine (ints_w _ _ _ r2).mono ?_
  rintro e w8 ⟨rfl, b8⟩
  clear r2
  replace r4 := r4.below b8
  replace r5 := r5.below b8
  replace r6 := r6.below b8
  replace b8 := below_tr b7 b8
  clear b7
  go_wp2_with fail
  refine (ints_q _ _ _ r4).mono ?_
  rintro e w9 ⟨rfl, b9⟩
  clear r4
  replace r5 := r5.below b9
  replace r6 := r6.below b9
  replace b9 := below_tr b8 b9
  clear b8
  go_wp2_with fail
  refine (same_d _ _ _ r5).mono ?_
  rintro e w10 ⟨rfl, b10⟩
  clear r5
  replace r6 := r6.below b10
  replace b10 := below_tr b9 b10
  clear b9
  go_wp2_with fail
  refine (same_s _ _ _ r6).mono ?_
  rintro e w11 ⟨rfl, b11⟩
  clear r6
  replace b11 := below_tr b10 b11
  clear b10
  go_wp2_with fail
  refine (unit_lit _).mono ?_
  rintro e w12 ⟨rfl, b12⟩
  replace b12 := below_tr b11 b12
  clear b11
  go_wp2
  go_ret
  exact ⟨rfl, b12⟩

end Go.Proofs.Ytcihombiijjndaa
