/-
  The walk of 'alive' of the statements of chapter 13: it returns true. No condition.
-/
import Derived.Test.YtofedeokliljkaaPlainH
import Derived.Test.YtofedeokliljkaaWalkZb
namespace Go.Proofs.Ytofedeokliljkaa
open Go.RowKit

theorem rd_new {n e : Nat} (w : World) (xs : List Value) (hn : xs.length = n) (hm : n ≤ 1000) : Rd (w.alloc (.cells xs.toArray e)) (some ⟨w.heap.size, 0, none⟩) n xs := by
  obtain ⟨a, cap, e1, h⟩ := own_rd (own_new (B := 0) (e := e) w xs n (Nat.zero_le _) hn.symm (by unfold maxLen; omega))
  cases e1; exact h

theorem below_lit {w w1 : World} {o : Obj} (h : Below (w.alloc o).heap.size (w.alloc o) w1) : Below w.heap.size w w1 :=
  ((Below.refl _ w).alloc (Nat.le_refl _) o).trans (h.mono (by simp))

theorem ints_self (a a' : Option Addr) (n cap n' cap' : Nat) (xs : List Int) (w : World) (h : RdI w a n xs) (h' : RdI w a' n' xs) :
    Calls Try.prog 13 #[.slice a n cap, .slice a' n' cap'] w fun e w' => e = .returned (.bool true) ∧ Below w.heap.size w w' := by
  have := ints_any a a' n cap n' cap' xs xs w h h'
  rwa [decide_eq_true rfl] at this

theorem same_self (a a' : Option Addr) (n cap n' cap' : Nat) (xs : List Bool) (w : World) (h : RdB w a n xs) (h' : RdB w a' n' xs) :
    Calls Try.prog 19 #[.slice a n cap, .slice a' n' cap'] w fun e w' => e = .returned (.bool true) ∧ Below w.heap.size w w' := by
  have := same_any a a' n cap n' cap' xs xs w h h'
  rwa [decide_eq_true rfl] at this

theorem val_lit1 (w : World) : Calls Try.prog 22 #[.slice (some ⟨w.heap.size, 0, none⟩) 4 4] (w.alloc (.cells #[.int .i64 49, .int .i64 50, .int .i64 51, .int .i64 52] 3)) fun e w' =>
    ∃ a cap, e = .returned (.tuple #[.slice a 5 cap, .int .i64 0]) ∧ RdI w' a 5 [105, 12, 34, 82, 106] ∧ Below w.heap.size w w' := by
  have hrd : RdI (w.alloc (.cells #[.int .i64 49, .int .i64 50, .int .i64 51, .int .i64 52] 3)) (some ⟨w.heap.size, 0, none⟩) 4 [49, 50, 51, 52] := rd_new w [.int .i64 49, .int .i64 50, .int .i64 51, .int .i64 52] rfl (by omega)
  refine (values_any _ _ _ _ _ hrd (by omega)).mono ?_
  rw [al1]
  rintro e w1 hret
  obtain ⟨a, cap, rfl, r, b⟩ := hret.open
  exact ⟨a, cap, rfl, r, below_lit b⟩

theorem val_lit2 (w : World) : Calls Try.prog 22 #[.slice (some ⟨w.heap.size, 0, none⟩) 2 2] (w.alloc (.cells #[.int .i64 97, .int .i64 49] 3)) fun e w' =>
    ∃ a cap, e = .returned (.tuple #[.slice a 5 cap, .int .i64 0]) ∧ RdI w' a 5 [104, 65, 17, 100, 106] ∧ Below w.heap.size w w' := by
  have hrd : RdI (w.alloc (.cells #[.int .i64 97, .int .i64 49] 3)) (some ⟨w.heap.size, 0, none⟩) 2 [97, 49] := rd_new w [.int .i64 97, .int .i64 49] rfl (by omega)
  refine (values_any _ _ _ _ _ hrd (by omega)).mono ?_
  rw [al2]
  rintro e w1 hret
  obtain ⟨a, cap, rfl, r, b⟩ := hret.open
  exact ⟨a, cap, rfl, r, below_lit b⟩

theorem chr_lit (w : World) : Calls Try.prog 11 #[.slice (some ⟨w.heap.size, 0, none⟩) 4 4] (w.alloc (.cells #[.int .i64 103, .int .i64 64, .int .i64 64, .int .i64 106] 3)) fun e w' =>
    ∃ a cap, e = .returned (.tuple #[.slice a 1 cap, .int .i64 0]) ∧ RdI w' a 1 [0] ∧ Below w.heap.size w w' := by
  have hrd : RdI (w.alloc (.cells #[.int .i64 103, .int .i64 64, .int .i64 64, .int .i64 106] 3)) (some ⟨w.heap.size, 0, none⟩) 4 [103, 64, 64, 106] := rd_new w [.int .i64 103, .int .i64 64, .int .i64 64, .int .i64 106] rfl (by omega)
  refine (chars_any _ _ _ _ _ hrd (by omega) (by omega) (by omega)).mono ?_
  rw [al3]
  rintro e w1 hret
  obtain ⟨a, cap, rfl, r, b⟩ := hret.open
  exact ⟨a, cap, rfl, r, below_lit b⟩

theorem pat_lit (w : World) : Calls Try.prog 15 #[.int .i64 106] w fun e w' =>
    ∃ a cap, e = .returned (.tuple #[.slice a 7 cap, .int .i64 0]) ∧ RdI w' a 7 [2, 3, 3, 1, 1, 1, 2] ∧ Below w.heap.size w w' := by
  refine (pattern_any 106 w).mono ?_
  rw [al4]
  rintro e w1 hret
  obtain ⟨a, cap, rfl, r, b⟩ := hret.open
  exact ⟨a, cap, rfl, r, b⟩

theorem enc_lit : ∃ row : List Bool, row.length = 66 ∧ decF row = ([49, 50], 0) ∧ ∀ w : World, Calls Try.prog 17 #[.slice (some ⟨w.heap.size, 0, none⟩) 2 2] (w.alloc (.cells #[.int .i64 49, .int .i64 50] 3)) fun e w' =>
    ∃ a cap, e = .returned (.tuple #[.slice a 66 cap, .int .i64 0]) ∧ RdB w' a 66 row ∧ Below w.heap.size w w' := by
  refine ⟨(encodeF [49, 50]).1, al6.1, al7, fun w => ?_⟩
  have hrd : RdI (w.alloc (.cells #[.int .i64 49, .int .i64 50] 3)) (some ⟨w.heap.size, 0, none⟩) 2 [49, 50] := rd_new w [.int .i64 49, .int .i64 50] rfl (by omega)
  refine (encode_any _ _ _ _ _ hrd (by omega)).mono ?_
  rw [al6.2]
  rintro e w1 hret
  obtain ⟨a, cap, rfl, r, b⟩ := hret.open
  rw [al6.1] at r ⊢
  exact ⟨a, cap, rfl, r, below_lit b⟩

theorem dec_lit (a : Option Addr) (cap : Nat) (row : List Bool) (w : World) (h : RdB w a 66 row) (hd : decF row = ([49, 50], 0)) : Calls Try.prog 20 #[.slice a 66 cap] w fun e w' =>
    ∃ a cap, e = .returned (.tuple #[.slice a 2 cap, .int .i64 0]) ∧ RdI w' a 2 [49, 50] ∧ Below w.heap.size w w' := by
  refine (decode_any a 66 cap row w h (by omega)).mono ?_
  rw [hd]
  rintro e w1 hret
  obtain ⟨a, cap, rfl, r, b⟩ := hret.open
  exact ⟨a, cap, rfl, r, b⟩

theorem eq1 (a : Option Addr) (c : Nat) (w : World) (h : RdI w a 5 [105, 12, 34, 82, 106]) : Calls Try.prog 13 #[.slice a 5 c, .slice (some ⟨w.heap.size, 0, none⟩) 5 5] (w.alloc (.cells #[.int .i64 105, .int .i64 12, .int .i64 34, .int .i64 82, .int .i64 106] 3)) fun e w' =>
    e = .returned (.bool true) ∧ Below w.heap.size w w' := by
  refine (ints_self _ _ _ _ _ _ [105, 12, 34, 82, 106] _ (h.below ((Below.refl _ w).alloc (Nat.le_refl _) _)) (rd_new w [.int .i64 105, .int .i64 12, .int .i64 34, .int .i64 82, .int .i64 106] rfl (by simp))).mono ?_
  rintro e w1 ⟨rfl, hb⟩
  exact ⟨rfl, below_lit hb⟩

theorem eq2 (a : Option Addr) (c : Nat) (w : World) (h : RdI w a 5 [104, 65, 17, 100, 106]) : Calls Try.prog 13 #[.slice a 5 c, .slice (some ⟨w.heap.size, 0, none⟩) 5 5] (w.alloc (.cells #[.int .i64 104, .int .i64 65, .int .i64 17, .int .i64 100, .int .i64 106] 3)) fun e w' =>
    e = .returned (.bool true) ∧ Below w.heap.size w w' := by
  refine (ints_self _ _ _ _ _ _ [104, 65, 17, 100, 106] _ (h.below ((Below.refl _ w).alloc (Nat.le_refl _) _)) (rd_new w [.int .i64 104, .int .i64 65, .int .i64 17, .int .i64 100, .int .i64 106] rfl (by simp))).mono ?_
  rintro e w1 ⟨rfl, hb⟩
  exact ⟨rfl, below_lit hb⟩

theorem eq3 (a : Option Addr) (c : Nat) (w : World) (h : RdI w a 1 [0]) : Calls Try.prog 13 #[.slice a 1 c, .slice (some ⟨w.heap.size, 0, none⟩) 1 1] (w.alloc (.cells #[.int .i64 0] 3)) fun e w' =>
    e = .returned (.bool true) ∧ Below w.heap.size w w' := by
  refine (ints_self _ _ _ _ _ _ [0] _ (h.below ((Below.refl _ w).alloc (Nat.le_refl _) _)) (rd_new w [.int .i64 0] rfl (by simp))).mono ?_
  rintro e w1 ⟨rfl, hb⟩
  exact ⟨rfl, below_lit hb⟩

theorem eq4 (a : Option Addr) (c : Nat) (w : World) (h : RdI w a 7 [2, 3, 3, 1, 1, 1, 2]) : Calls Try.prog 13 #[.slice a 7 c, .slice (some ⟨w.heap.size, 0, none⟩) 7 7] (w.alloc (.cells #[.int .i64 2, .int .i64 3, .int .i64 3, .int .i64 1, .int .i64 1, .int .i64 1, .int .i64 2] 3)) fun e w' =>
    e = .returned (.bool true) ∧ Below w.heap.size w w' := by
  refine (ints_self _ _ _ _ _ _ [2, 3, 3, 1, 1, 1, 2] _ (h.below ((Below.refl _ w).alloc (Nat.le_refl _) _)) (rd_new w [.int .i64 2, .int .i64 3, .int .i64 3, .int .i64 1, .int .i64 1, .int .i64 1, .int .i64 2] rfl (by simp))).mono ?_
  rintro e w1 ⟨rfl, hb⟩
  exact ⟨rfl, below_lit hb⟩

theorem eq6 (a : Option Addr) (c : Nat) (w : World) (h : RdI w a 2 [49, 50]) : Calls Try.prog 13 #[.slice a 2 c, .slice (some ⟨w.heap.size, 0, none⟩) 2 2] (w.alloc (.cells #[.int .i64 49, .int .i64 50] 3)) fun e w' =>
    e = .returned (.bool true) ∧ Below w.heap.size w w' := by
  refine (ints_self _ _ _ _ _ _ [49, 50] _ (h.below ((Below.refl _ w).alloc (Nat.le_refl _) _)) (rd_new w [.int .i64 49, .int .i64 50] rfl (by simp))).mono ?_
  rintro e w1 ⟨rfl, hb⟩
  exact ⟨rfl, below_lit hb⟩

set_option maxRecDepth 100000 in
set_option maxHeartbeats 4000000 in
theorem alive_any (w : World) : Calls Try.prog 10 #[] w fun e w' => e = .returned (.bool true) ∧ Below w.heap.size w w' := by
  obtain ⟨row, hrl, hrd, henc⟩ := enc_lit
  have HRD := Lib.hid hrd; have HENC := Lib.hid henc
  clear hrl hrd henc
  go_enter Try.func10, Try.ntmps10
  go_wp2_with fail
  refine (val_lit1 _).mono ?_
  rintro e w1 ⟨a1, c1, rfl, r1, b1⟩
  go_wp2_with fail
  refine (val_lit2 _).mono ?_
  rintro e w2 ⟨a2, c2, rfl, r2, b2⟩
  replace r1 := r1.below b2
  replace b2 := below_tr b1 b2
  clear b1
  go_wp2_with fail
  refine (chr_lit _).mono ?_
  rintro e w3 ⟨a3, c3, rfl, r3, b3⟩
  replace r1 := r1.below b3
  replace r2 := r2.below b3
  replace b3 := below_tr b2 b3
  clear b2
  go_wp2_with fail
  refine (pat_lit _).mono ?_
  rintro e w4 ⟨a4, c4, rfl, r4, b4⟩
  replace r1 := r1.below b4
  replace r2 := r2.below b4
  replace r3 := r3.below b4
  replace b4 := below_tr b3 b4
  clear b3
  go_wp2_with fail
  refine (HENC.out _).mono ?_
  rintro e w5 ⟨a5, c5, rfl, r5, b5⟩
  replace r1 := r1.below b5
  replace r2 := r2.below b5
  replace r3 := r3.below b5
  replace r4 := r4.below b5
  replace b5 := below_tr b4 b5
  clear b4
  go_wp2_with fail
  refine (dec_lit _ _ _ _ r5 HRD.out).mono ?_
  rintro e w6 ⟨a6, c6, rfl, r6, b6⟩
  replace r1 := r1.below b6
  replace r2 := r2.below b6
  replace r3 := r3.below b6
  replace r4 := r4.below b6
  replace r5 := r5.below b6
  replace b6 := below_tr b5 b6
  clear b5
  clear r5
  go_wp2_with fail
  refine (eq1 _ _ _ r1).mono ?_
  rintro e w7 ⟨rfl, b7⟩
  clear r1
  replace r2 := r2.below b7
  replace r3 := r3.below b7
  replace r4 := r4.below b7
  replace r6 := r6.below b7
  replace b7 := below_tr b6 b7
  clear b6
  go_wp2_with fail
  refine (eq2 _ _ _ r2).mono ?_
  rintro e w8 ⟨rfl, b8⟩
  clear r2
  replace r3 := r3.below b8
  replace r4 := r4.below b8
  replace r6 := r6.below b8
  replace b8 := below_tr b7 b8
  clear b7
  go_wp2_with fail
  refine (eq3 _ _ _ r3).mono ?_
  rintro e w9 ⟨rfl, b9⟩
  clear r3
  replace r4 := r4.below b9
  replace r6 := r6.below b9
  replace b9 := below_tr b8 b9
  clear b8
  go_wp2_with fail
  refine (eq4 _ _ _ r4).mono ?_
  rintro e w10 ⟨rfl, b10⟩
  clear r4
  replace r6 := r6.below b10
  replace b10 := below_tr b9 b10
  clear b9
  go_wp2_with fail
  refine (eq6 _ _ _ r6).mono ?_
  rintro e w11 ⟨rfl, b11⟩
  clear r6
  replace b11 := below_tr b10 b11
  clear b10
  go_wp2
  go_ret
  exact ⟨rfl, b11⟩

end Go.Proofs.Ytofedeokliljkaa
