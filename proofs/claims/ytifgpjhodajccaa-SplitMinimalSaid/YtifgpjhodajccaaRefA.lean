/-
  The walks of the reference's known, CountBits, most, Data, size and better. Condition: modes and classes are right.
-/
import Derived.Test.YtifgpjhodajccaaPlainQ
namespace Go.Proofs.Ytifgpjhodajccaa
open Go.RowKit

set_option maxRecDepth 100000 in
set_option maxHeartbeats 4000000 in
theorem refKnown_any (m : Nat) (w : World) (hm : isMode m) : Calls Try.prog 92 #[.int .i64 m] w fun e w' => e = .returned (.bool true) ∧ w = w' := by
  rcases hm with rfl | rfl | rfl
  all_goals
    go_enter Try.func92, Try.ntmps92
    go_wp2
    go_ret
    exact ⟨rfl, rfl⟩

set_option maxRecDepth 100000 in
set_option maxHeartbeats 4000000 in
theorem refCount_any (m cl : Nat) (w : World) (hm : isMode m) (hc : cl < 3) : Calls Try.prog 86 #[.int .i64 m, .int .i64 cl] w fun e w' => e = .returned (.tuple #[.int .i64 (countF m cl), .int .i64 0]) ∧ w = w' := by
  have HK := Lib.hid (fun W => refKnown_any m W hm)
  rcases hm with rfl | rfl | rfl <;> rcases (show cl = 0 ∨ cl = 1 ∨ cl = 2 by omega) with rfl | rfl | rfl
  all_goals
    go_enter Try.func86, Try.ntmps86
    go_wp2_with fail
    refine (HK.out _).mono ?_
    rintro e w' ⟨rfl, rfl⟩
    go_wp2
    go_ret2
    exact ⟨rfl, rfl⟩

set_option maxRecDepth 100000 in
set_option maxHeartbeats 4000000 in
theorem refMost_any (m cl : Nat) (w : World) (hm : isMode m) (hc : cl < 3) : Calls Try.prog 64 #[.int .i64 m, .int .i64 cl] w fun e w' => e = .returned (.int .i64 (limF m cl)) ∧ w = w' := by
  have HK := Lib.hid (fun W => refCount_any m cl W hm hc)
  rcases hm with rfl | rfl | rfl <;> rcases (show cl = 0 ∨ cl = 1 ∨ cl = 2 by omega) with rfl | rfl | rfl
  all_goals
    simp only [countF, if_true, if_false, show ¬ ((2 : Nat) = 1) by omega, show ¬ ((4 : Nat) = 1) by omega, show ¬ ((4 : Nat) = 2) by omega, show ¬ ((1 : Nat) = 0) by omega, show ¬ ((2 : Nat) = 0) by omega, Nat.mul_zero, Nat.add_zero, Nat.mul_one] at HK
    go_enter Try.func64, Try.ntmps64
    go_wp2_with fail
    refine (HK.out _).mono ?_
    rintro e w' ⟨rfl, rfl⟩
    go_wp2
    go_ret
    exact ⟨rfl, rfl⟩

set_option maxRecDepth 100000 in
set_option maxHeartbeats 4000000 in
theorem refData_any (m n : Nat) (w : World) (hm : isMode m) (hn : n ≤ 4096) : Calls Try.prog 88 #[.int .i64 m, .int .i64 n] w fun e w' => e = .returned (.int .i64 (sizeF (packF m) n)) ∧ w = w' := by
  rcases hm with rfl | rfl | rfl
  · have hs : sizeF (packF 1) n = ((n / 3 * 10 + n % 3 * 3 + (n % 3 + 1) / 2 : Nat) : Int) := by
      have e : packF 1 = ⟨3, 10, 10, 0, 4, 7⟩ := rfl
      unfold sizeF partF
      rw [e]
      simp only
      rcases (show n % 3 = 0 ∨ n % 3 = 1 ∨ n % 3 = 2 by omega) with h | h | h <;> rw [h] <;> simp <;> omega
    have HS := Lib.hid hs
    clear hs
    go_enter Try.func88, Try.ntmps88
    go_wp2
    go_ret
    exact ⟨ret_int (by rw [HS.out]; omega), rfl⟩
  · have hs : sizeF (packF 2) n = ((n / 2 * 11 + n % 2 * 6 : Nat) : Int) := by
      have e : packF 2 = ⟨2, 45, 11, 0, 6, 0⟩ := rfl
      unfold sizeF partF
      rw [e]
      simp only
      rcases (show n % 2 = 0 ∨ n % 2 = 1 by omega) with h | h <;> rw [h] <;> simp <;> omega
    have HS := Lib.hid hs
    clear hs
    go_enter Try.func88, Try.ntmps88
    go_wp2
    go_ret
    exact ⟨ret_int (by rw [HS.out]; omega), rfl⟩
  · have hs : sizeF (packF 4) n = ((8 * n : Nat) : Int) := by
      have e : packF 4 = ⟨1, 256, 8, 0, 0, 0⟩ := rfl
      unfold sizeF partF
      rw [e]
      simp [Nat.mod_one]
    have HS := Lib.hid hs
    clear hs
    go_enter Try.func88, Try.ntmps88
    go_wp2
    go_ret
    exact ⟨ret_int (by rw [HS.out]; omega), rfl⟩

set_option maxRecDepth 100000 in
set_option maxHeartbeats 4000000 in
theorem refSize_any (m cl n : Nat) (w : World) (hm : isMode m) (hc : cl < 3) (hn : n ≤ 4096) : Calls Try.prog 66 #[.int .i64 m, .int .i64 cl, .int .i64 n] w fun e w' => e = .returned (.int .i64 (headF m cl + sizeF (packF m) n)) ∧ w = w' := by
  have HK := Lib.hid (fun W => refCount_any m cl W hm hc)
  have HD := Lib.hid (fun W => refData_any m n W hm hn)
  have hb := size_bnd hm n
  have hh := head_bnd (m := m) hc
  have he : headF m cl = 4 + (countF m cl : Int) := rfl
  rw [he] at hh
  have HE := Lib.hid he
  clear he hm
  generalize sizeF (packF m) n = S at *
  generalize countF m cl = C at *
  go_enter Try.func66, Try.ntmps66
  go_wp2_with fail
  refine (HK.out _).mono ?_
  rintro e w' ⟨rfl, rfl⟩
  go_wp2_with fail
  refine (HD.out _).mono ?_
  rintro e w' ⟨rfl, rfl⟩
  go_wp2
  go_ret
  exact ⟨ret_int (by rw [HE.out]), rfl⟩

/-- better: what it says of the bits. -/
def BetP (a b : Int) (e : Ending) : Prop := ∃ r, e = .returned (.bool r) ∧ (r = true → a ≤ b) ∧ (r = false → b ≤ a)

set_option maxRecDepth 100000 in
set_option maxHeartbeats 4000000 in
theorem refBetter_any (a0 a1 a2 a3 b0 b1 b2 b3 : Int) (w : World) :
    Calls Try.prog 67 #[.agg #[.int .i64 a0, .int .i64 a1, .int .i64 a2, .int .i64 a3], .agg #[.int .i64 b0, .int .i64 b1, .int .i64 b2, .int .i64 b3]] w fun e w' => BetP a0 b0 e ∧ Below w.heap.size w w' := by
  have hbb : Below w.heap.size w ((w.alloc (.cells #[.int .i64 a0, .int .i64 a1, .int .i64 a2, .int .i64 a3] 76)).alloc (.cells #[.int .i64 b0, .int .i64 b1, .int .i64 b2, .int .i64 b3] 76)) := ((Below.refl _ _).alloc (Nat.le_refl _) _).alloc (by simp) _
  go_enter Try.func67, Try.ntmps67
  go_wp2_with fail
  all_goals
    go_ret
    refine ⟨⟨_, rfl, fun h => ?_, fun h => ?_⟩, hbb⟩
    all_goals first
      | (simp_all; done)
      | (simp_all; omega)
      | (simp at h; omega)

end Go.Proofs.Ytifgpjhodajccaa
