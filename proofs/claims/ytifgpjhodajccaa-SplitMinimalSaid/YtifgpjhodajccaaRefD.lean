/-
  The walks of the reference's right, blocks, checks and words. Condition: version and level are right.
-/
import Derived.Test.YtifgpjhodajccaaRefC
import Derived.Test.YtifgpjhodajccaaWalkV
namespace Go.Proofs.Ytifgpjhodajccaa
open Go.RowKit

def chkT (l : Nat) : List Int := if l = 1 then [7, 10, 15, 20, 26, 18, 20, 24, 30, 18, 20, 24, 26, 30, 22, 24, 28, 30, 28, 28, 28, 28, 30, 30, 26, 28, 30, 30, 30, 30, 30, 30, 30, 30, 30, 30, 30, 30, 30, 30] else if l = 2 then [10, 16, 26, 18, 24, 16, 18, 22, 22, 26, 30, 22, 22, 24, 24, 28, 28, 26, 26, 26, 26, 28, 28, 28, 28, 28, 28, 28, 28, 28, 28, 28, 28, 28, 28, 28, 28, 28, 28, 28] else if l = 3 then [13, 22, 18, 26, 18, 24, 18, 22, 20, 24, 28, 26, 24, 20, 30, 24, 28, 28, 26, 30, 28, 30, 30, 30, 30, 28, 30, 30, 30, 30, 30, 30, 30, 30, 30, 30, 30, 30, 30, 30] else [17, 28, 22, 16, 22, 28, 26, 26, 24, 28, 24, 28, 22, 24, 24, 30, 28, 28, 26, 28, 30, 24, 30, 30, 30, 30, 30, 30, 30, 30, 30, 30, 30, 30, 30, 30, 30, 30, 30, 30]
def blkT (l : Nat) : List Int := if l = 1 then [1, 1, 1, 1, 1, 2, 2, 2, 2, 4, 4, 4, 4, 4, 6, 6, 6, 6, 7, 8, 8, 9, 9, 10, 12, 12, 12, 13, 14, 15, 16, 17, 18, 19, 19, 20, 21, 22, 24, 25] else if l = 2 then [1, 1, 1, 2, 2, 4, 4, 4, 5, 5, 5, 8, 9, 9, 10, 10, 11, 13, 14, 16, 17, 17, 18, 20, 21, 23, 25, 26, 28, 29, 31, 33, 35, 37, 38, 40, 43, 45, 47, 49] else if l = 3 then [1, 1, 2, 2, 4, 4, 6, 6, 8, 8, 8, 10, 12, 16, 12, 17, 16, 18, 21, 20, 23, 23, 25, 27, 29, 34, 34, 35, 38, 40, 43, 45, 48, 51, 53, 56, 59, 62, 65, 68] else [1, 1, 2, 4, 4, 4, 5, 6, 8, 8, 11, 11, 16, 16, 18, 16, 19, 21, 25, 25, 25, 34, 30, 32, 35, 37, 40, 42, 45, 48, 51, 54, 57, 60, 63, 66, 70, 74, 77, 81]
def wrdT : List Int := [26, 44, 70, 100, 134, 172, 196, 242, 292, 346, 404, 466, 532, 581, 655, 733, 815, 901, 991, 1085, 1156, 1258, 1364, 1474, 1588, 1706, 1828, 1921, 2051, 2185, 2323, 2465, 2611, 2761, 2876, 3034, 3196, 3362, 3532, 3706]

/-- A new slice of integers alone. -/
def RetT (xs : List Int) (w : World) (e : Ending) (w' : World) : Prop := ∃ a, e = .returned (.slice a 40 40) ∧ RdI w' a 40 xs ∧ Below w.heap.size w w'

set_option maxRecDepth 100000 in
set_option maxHeartbeats 4000000 in
theorem right_any (v l : Nat) (w : World) (h1 : 1 ≤ v) (h2 : v ≤ 40) (l1 : 1 ≤ l) (l2 : l ≤ 4) : Calls Try.prog 68 #[.int .i64 v, .int .i64 l] w fun e w' => e = .returned (.int .i64 0) ∧ w = w' := by
  have d1 : decide ((v : Int) < 1) = false := decide_eq_false (by omega)
  have d2 : decide (40 < (v : Int)) = false := decide_eq_false (by omega)
  have d3 : decide ((l : Int) < 1) = false := decide_eq_false (by omega)
  have d4 : decide (4 < (l : Int)) = false := decide_eq_false (by omega)
  go_enter Try.func68, Try.ntmps68
  go_wp2
  go_ret
  exact ⟨rfl, rfl⟩

set_option maxRecDepth 100000 in
set_option maxHeartbeats 4000000 in
theorem words_any (w : World) : Calls Try.prog 71 #[] w (RetT wrdT w) := by
  have hr := rd_new w 3 40 (wrdT.map (Value.int .i64)) rfl (by omega)
  have HR := Lib.hid hr
  clear hr
  go_enter Try.func71, Try.ntmps71
  go_wp2
  go_ret
  exact ⟨_, rfl, HR.out, (Below.refl _ _).alloc (Nat.le_refl _) _⟩

set_option maxRecDepth 100000 in
set_option maxHeartbeats 4000000 in
theorem blocks_any (l : Nat) (w : World) (l1 : 1 ≤ l) (l2 : l ≤ 4) : Calls Try.prog 69 #[.int .i64 l] w (RetT (blkT l) w) := by
  have HR := Lib.hid (fun (h : ((blkT l).map (Value.int .i64)).length = 40) => rd_new w 3 40 ((blkT l).map (Value.int .i64)) h (by omega))
  rcases (show l = 1 ∨ l = 2 ∨ l = 3 ∨ l = 4 by omega) with rfl | rfl | rfl | rfl
  all_goals
    go_enter Try.func69, Try.ntmps69
    go_wp2
    go_ret
    exact ⟨_, rfl, HR.out rfl, (Below.refl _ _).alloc (Nat.le_refl _) _⟩

set_option maxRecDepth 100000 in
set_option maxHeartbeats 4000000 in
theorem checks_any (l : Nat) (w : World) (l1 : 1 ≤ l) (l2 : l ≤ 4) : Calls Try.prog 70 #[.int .i64 l] w (RetT (chkT l) w) := by
  have HR := Lib.hid (fun (h : ((chkT l).map (Value.int .i64)).length = 40) => rd_new w 3 40 ((chkT l).map (Value.int .i64)) h (by omega))
  rcases (show l = 1 ∨ l = 2 ∨ l = 3 ∨ l = 4 by omega) with rfl | rfl | rfl | rfl
  all_goals
    go_enter Try.func70, Try.ntmps70
    go_wp2
    go_ret
    exact ⟨_, rfl, HR.out rfl, (Below.refl _ _).alloc (Nat.le_refl _) _⟩

/-- The reference's capacity is the program's. -/
theorem cap_ref : ∀ v : Nat, v < 41 → ∀ l : Nat, l < 5 → 1 ≤ v → 1 ≤ l → 0 < (blkT l).getD (v - 1) 0 ∧ (((blkT l).getD (v - 1) 0 - (wrdT.getD (v - 1) 0 - (blkT l).getD (v - 1) 0 * (chkT l).getD (v - 1) 0) % (blkT l).getD (v - 1) 0) + (wrdT.getD (v - 1) 0 - (blkT l).getD (v - 1) 0 * (chkT l).getD (v - 1) 0) % (blkT l).getD (v - 1) 0) * ((wrdT.getD (v - 1) 0 - (blkT l).getD (v - 1) 0 * (chkT l).getD (v - 1) 0) / (blkT l).getD (v - 1) 0) + (wrdT.getD (v - 1) 0 - (blkT l).getD (v - 1) 0 * (chkT l).getD (v - 1) 0) % (blkT l).getD (v - 1) 0 = capF v l := by decide +kernel

end Go.Proofs.Ytifgpjhodajccaa
