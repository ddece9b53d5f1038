/-
  The examples of the chapter, in plain Lean. No condition.
-/
import Derived.Test.YtifgpjhodajccaaWalkT
namespace Go.Proofs.Ytifgpjhodajccaa
open Go.RowKit

def digs : List Int := (List.range 100).map (fun k => ((48 + k % 10 : Nat) : Int))

theorem digs_str : (⟨#[48, 49, 50, 51, 52, 53, 54, 55, 56, 57, 48, 49, 50, 51, 52, 53, 54, 55, 56, 57, 48, 49, 50, 51, 52, 53, 54, 55, 56, 57, 48, 49, 50, 51, 52, 53, 54, 55, 56, 57, 48, 49, 50, 51, 52, 53, 54, 55, 56, 57]⟩ ++ ⟨#[48, 49, 50, 51, 52, 53, 54, 55, 56, 57, 48, 49, 50, 51, 52, 53, 54, 55, 56, 57, 48, 49, 50, 51, 52, 53, 54, 55, 56, 57, 48, 49, 50, 51, 52, 53, 54, 55, 56, 57, 48, 49, 50, 51, 52, 53, 54, 55, 56, 57]⟩ : ByteArray) = strOfNums digs := by kernel_rfl

theorem ex_cuts : cutsF digs 1 1 = ([35, 35, 30], 0) := by decide +kernel
theorem ex_join1 : joinF [([(4, [65, 66])], (0, 2, 1)), ([(4, [65, 67])], (0, 2, 1))] = (34, []) := by decide +kernel
theorem ex_join2 : joinF [([(4, [67])], (2, 3, 64)), ([(4, [65])], (0, 3, 64))] = (33, []) := by decide +kernel
theorem ex_miss : missF [([(4, [67])], (2, 3, 64)), ([(4, [65])], (0, 3, 64))] = (0, [1]) := by decide +kernel
theorem ex_join3 : joinF [([(4, [67])], (2, 3, 64)), ([(4, [65])], (0, 3, 64)), ([(4, [66])], (1, 3, 64))] = (0, [65, 66, 67]) := by decide +kernel
theorem ex_par : parF [1, 2, 4] 0 = 7 := by decide +kernel

end Go.Proofs.Ytifgpjhodajccaa
