/-
  Strings and bytes. No condition.
-/
import Derived.Test.YtifgpjhodajccaaMapB
import Derived.Lib.ConvBytes
namespace Go.Proofs.Ytifgpjhodajccaa
open Go.RowKit

theorem bytesWorld_below (w : World) (e : TypeId) (s : ByteArray) : Below w.heap.size w (Lib.bytesWorld w e s) :=
  ⟨rfl, rfl, rfl, by rw [Lib.bytesWorld_size]; omega, fun k hk => Lib.bytesWorld_at_old w e s k hk⟩

theorem strOf_at {xs : List Int} (hx : ∀ c ∈ xs, 0 ≤ c ∧ c < 256) (j : Nat) (hj : j < xs.length) : (((strOfNums xs).data.toList.getD j 0).toNat : Int) = xs[j] := by
  rw [strOfNums_data, List.getD_eq_getElem?_getD, List.getElem?_map, List.getElem?_eq_getElem hj]
  have := hx xs[j] (List.getElem_mem hj)
  simp
  omega

/-- The bytes of a string, at each call anew. -/
theorem conv_str (w : World) (xs : List Int) (hx : ∀ c ∈ xs, 0 ≤ c ∧ c < 256) (hl : xs.length ≤ 1000000000) :
    ∃ W c, (convert 9 22 (.string (strOfNums xs))).run Try.prog w = .ok (.slice (some ⟨w.heap.size, 0, none⟩) xs.length c) W ∧ RdU W (some ⟨w.heap.size, 0, none⟩) xs.length xs ∧ Below w.heap.size w W ∧ W.heap.size = w.heap.size + 1 ∧ xs.length ≤ c ∧ c ≤ 9223372036854775807 := by
  refine ⟨Lib.bytesWorld w 5 (strOfNums xs), grownCap w (strOfNums xs).size 0 5, ?_, ?_, bytesWorld_below _ _ _, Lib.bytesWorld_size _ _ _, ?_, ?_⟩
  · have := Lib.run_convert_string_bytes (P := Try.prog) w 9 22 5 (strOfNums xs) Try.underlying9 Try.underlying22 Try.underlying5
    rw [this, strOfNums_size]
  · refine ⟨by simp, by omega, fun k hk => ⟨w.heap.size, 0, rfl, ?_⟩⟩
    rw [Nat.zero_add, Lib.bytesWorld_cell w 5 (strOfNums xs) k (by rw [strOfNums_size]; exact hk), strOf_at hx k hk]
    simp [hk]
  · have := grownCap_ge w (strOfNums xs).size 0 5
    rwa [strOfNums_size] at this ⊢
  · have := grownCap_le_maxLen w (strOfNums xs).size 0 5 (by rw [strOfNums_size]; unfold maxLen; omega)
    unfold maxLen at this; omega

theorem strOf_append (xs ys : List Int) : strOfNums xs ++ strOfNums ys = strOfNums (xs ++ ys) := by
  apply ByteArray.ext
  apply Array.ext'
  rw [ByteArray.data_append, Array.toList_append, strOfNums_data, strOfNums_data, strOfNums_data, List.map_append]

/-- Bytes that can be read, and a number. -/
def RetUr (xs : List Int) (c : Int) (w : World) (e : Ending) (w' : World) : Prop :=
  ∃ a cap, e = .returned (.tuple #[.slice a xs.length cap, .int .i64 c]) ∧ RdU w' a xs.length xs ∧ Below w.heap.size w w'

end Go.Proofs.Ytifgpjhodajccaa
