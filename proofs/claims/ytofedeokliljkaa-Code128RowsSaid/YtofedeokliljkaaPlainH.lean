/-
  Plain: the examples of the chapter.
-/
import Derived.Test.YtofedeokliljkaaPlainG
namespace Go.Proofs.Ytofedeokliljkaa
open Go.RowKit Go.Maps
theorem al1 : valuesF [49, 50, 51, 52] = ([105, 12, 34, 82, 106], 0) := by decide +kernel
theorem al2 : valuesF [97, 49] = ([104, 65, 17, 100, 106], 0) := by decide +kernel
theorem al3 : charsF [103, 64, 64, 106] = ([0], 0) := by decide +kernel
theorem al4 : patF 106 = ([2, 3, 3, 1, 1, 1, 2], 0) := by decide +kernel
theorem al5 : encodeF [49, 50] = ([false, false, false, false, false, false, false, false, false, false] ++ modsI 0 (patsF (valuesF [49, 50]).1) ++ [false, false, false, false, false, false, false, false, false, false], 0) := by decide +kernel
theorem al6 : (encodeF [49, 50]).1.length = 66 ∧ (encodeF [49, 50]).2 = 0 := by decide +kernel
theorem al7 : decF (encodeF [49, 50]).1 = ([49, 50], 0) := by decide +kernel
end Go.Proofs.Ytofedeokliljkaa
