/-
  The walks of split.valid and bytes.Equal; how messages are read. No condition.
-/
import Derived.Test.YtifgpjhodajccaaMapB
import Derived.Test.YtifgpjhodajccaaShelf
import Derived.BigQuiet
namespace Go.Proofs.Ytifgpjhodajccaa
open Go.RowKit

theorem strOf_inj {xs ys : List Int} (hx : ∀ c ∈ xs, 0 ≤ c ∧ c < 256) (hy : ∀ c ∈ ys, 0 ≤ c ∧ c < 256) : ((strOfNums xs).toList == (strOfNums ys).toList) = decide (xs = ys) := by
  have key : ∀ (l : List Int), (∀ c ∈ l, 0 ≤ c ∧ c < 256) → (strOfNums l).toList.map (fun u => (u.toNat : Int)) = l := by
    intro l hl
    rw [ByteArray.toList_eq]
    unfold strOfNums
    simp only [List.map_map]
    conv => rhs; rw [← List.map_id l]
    refine List.map_congr_left fun c hc => ?_
    have := hl c hc
    simp
    omega
  by_cases h : xs = ys
  · subst h; simp
  · have : ¬ (strOfNums xs).toList = (strOfNums ys).toList := fun e => h (by rw [← key xs hx, ← key ys hy, e])
    simp [h, this]

set_option maxRecDepth 100000 in
set_option maxHeartbeats 4000000 in
theorem bytesEqual_any (v u : Value) (xs ys : List Int) (w : World) (hv : SlR w v xs) (hu : SlR w u ys) (hx : ∀ c ∈ xs, 0 ≤ c ∧ c < 256) (hy : ∀ c ∈ ys, 0 ≤ c ∧ c < 256) :
    Calls Try.prog 34 #[v, u] w fun e w' => e = .returned (.bool (decide (xs = ys))) ∧ w = w' := by
  obtain ⟨a, c, rfl, h1, _⟩ := hv.ex
  obtain ⟨a2, c2, rfl, h2, _⟩ := hu.ex
  have k1 := conv_any c h1
  have k2 := conv_any c2 h2
  have hd := strOf_inj hx hy
  have HD := Lib.hid hd
  clear hd h1 h2 hv hu hx hy
  go_enter Try.func34, Try.ntmps34
  go_wp2_with fail
  go_ret
  exact ⟨ret_bool HD.out, rfl⟩

set_option maxRecDepth 100000 in
set_option maxHeartbeats 4000000 in
theorem valid_any (i t p : Int) (w : World) :
    Calls Try.prog 32 #[.agg #[.int .i64 i, .int .i64 t, .int .i64 p]] w fun e w' => e = .returned (.bool (validF (i, t, p))) ∧ Below w.heap.size w w' := by
  go_enter Try.func32, Try.ntmps32
  go_wp2_with fail
  all_goals (go_ret; exact ⟨ret_bool (by rw [Bool.eq_iff_iff]; simp [validF]; try omega), (Below.refl _ _).alloc (Nat.le_refl _) _⟩)

end Go.Proofs.Ytifgpjhodajccaa
