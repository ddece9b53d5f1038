/-
  The walks of qrversion.row, shares, Capacity. No condition.
-/
import Derived.Test.YtifgpjhodajccaaWalkH
import Derived.Great.BuildSlice
import Derived.Great.Walk
namespace Go.Proofs.Ytifgpjhodajccaa
open Go.RowKit

/-- The table of qrversion. -/
def rowsT : List (List Int) := [[26, 0, 7, 1, 10, 1, 13, 1, 17, 1],
  [44, 7, 10, 1, 16, 1, 22, 1, 28, 1],
  [70, 7, 15, 1, 26, 1, 18, 2, 22, 2],
  [100, 7, 20, 1, 18, 2, 26, 2, 16, 4],
  [134, 7, 26, 1, 24, 2, 18, 4, 22, 4],
  [172, 7, 18, 2, 16, 4, 24, 4, 28, 4],
  [196, 0, 20, 2, 18, 4, 18, 6, 26, 5],
  [242, 0, 24, 2, 22, 4, 22, 6, 26, 6],
  [292, 0, 30, 2, 22, 5, 20, 8, 24, 8],
  [346, 0, 18, 4, 26, 5, 24, 8, 28, 8],
  [404, 0, 20, 4, 30, 5, 28, 8, 24, 11],
  [466, 0, 24, 4, 22, 8, 26, 10, 28, 11],
  [532, 0, 26, 4, 22, 9, 24, 12, 22, 16],
  [581, 3, 30, 4, 24, 9, 20, 16, 24, 16],
  [655, 3, 22, 6, 24, 10, 30, 12, 24, 18],
  [733, 3, 24, 6, 28, 10, 24, 17, 30, 16],
  [815, 3, 28, 6, 28, 11, 28, 16, 28, 19],
  [901, 3, 30, 6, 26, 13, 28, 18, 28, 21],
  [991, 3, 28, 7, 26, 14, 26, 21, 26, 25],
  [1085, 3, 28, 8, 26, 16, 30, 20, 28, 25],
  [1156, 4, 28, 8, 26, 17, 28, 23, 30, 25],
  [1258, 4, 28, 9, 28, 17, 30, 23, 24, 34],
  [1364, 4, 30, 9, 28, 18, 30, 25, 30, 30],
  [1474, 4, 30, 10, 28, 20, 30, 27, 30, 32],
  [1588, 4, 26, 12, 28, 21, 30, 29, 30, 35],
  [1706, 4, 28, 12, 28, 23, 28, 34, 30, 37],
  [1828, 4, 30, 12, 28, 25, 30, 34, 30, 40],
  [1921, 3, 30, 13, 28, 26, 30, 35, 30, 42],
  [2051, 3, 30, 14, 28, 28, 30, 38, 30, 45],
  [2185, 3, 30, 15, 28, 29, 30, 40, 30, 48],
  [2323, 3, 30, 16, 28, 31, 30, 43, 30, 51],
  [2465, 3, 30, 17, 28, 33, 30, 45, 30, 54],
  [2611, 3, 30, 18, 28, 35, 30, 48, 30, 57],
  [2761, 3, 30, 19, 28, 37, 30, 51, 30, 60],
  [2876, 0, 30, 19, 28, 38, 30, 53, 30, 63],
  [3034, 0, 30, 20, 28, 40, 30, 56, 30, 66],
  [3196, 0, 30, 21, 28, 43, 30, 59, 30, 70],
  [3362, 0, 30, 22, 28, 45, 30, 62, 30, 74],
  [3532, 0, 30, 24, 28, 47, 30, 65, 30, 77],
  [3706, 0, 30, 25, 28, 49, 30, 68, 30, 81]]
def rowT (v : Nat) : List Int := rowsT.getD (v - 1) []

/-- The number of data codewords of a version (from 1 on) and a level (from 1 on). -/
def capF (v l : Nat) : Int := (rowT v).getD 0 0 - (rowT v).getD (2 * l) 0 * (rowT v).getD (2 * l + 1) 0

theorem size135 : (Try.prog.info? 135).map (·.size) = some 400 := by kernel_rfl
theorem size125 : (Try.prog.info? 125).map (·.size) = some 10 := by kernel_rfl

def bigA : Array Value := ((rowsT.flatten).map (Value.int .i64)).toArray
def zero10 : Array Value := (List.replicate 10 (Value.int .i64 0)).toArray
def zero400 : Array Value := (List.replicate 400 (Value.int .i64 0)).toArray

theorem one3b : (Try.prog.info? 3).map (·.size) = some 1 := by kernel_rfl
theorem zero125 : ((Try.prog.info? 125).bind (·.zero)).map (·.cells.size) = some 10 := by kernel_rfl

theorem flat_all : ∀ p : Nat, p < 40 → ∀ j : Nat, j < 10 → rowsT.flatten[p * 10 + j]? = (rowT (p + 1))[j]? := by decide +kernel
theorem len_all : ∀ p : Nat, p < 40 → (rowT (p + 1)).length = 10 := by decide +kernel
theorem len_row (p : Nat) (h : p < 40) : (rowT (p + 1)).length = 10 := len_all p h
theorem range_big {w : World} {g : Nat} (h : w.heap[g]? = some (.cells bigA 135 (0, 0))) (p : Nat) (hp : p < 40) : w.rangeAt g (p * 10) ((rowT (p + 1)).map (Value.int .i64)) := by
  intro j v hv
  have hj : j < 10 := by
    have := (List.getElem?_eq_some_iff.1 hv).1
    rw [List.length_map, len_row p hp] at this; exact this
  rw [cell_of_row _ _ _ _ _ _ h]
  unfold bigA
  rw [List.getElem?_toArray, List.getElem?_map, flat_all p hp j hj, ← List.getElem?_map]
  exact hv

set_option maxRecDepth 100000 in
set_option maxHeartbeats 8000000 in
theorem row_any (v : Nat) (w : World) (h1 : 1 ≤ v) (h2 : v ≤ 40) : Calls Try.prog 79 #[.int .i64 v] w fun e w' => e = .returned (.agg ((rowT v).map (Value.int .i64)).toArray) ∧ Below w.heap.size w w' := by
  go_enter Try.func79, Try.ntmps79
  go_upto_region 1 with fail
  have hW0 : (w.alloc (.cells #[.int .i64 0, .int .i64 0, .int .i64 0, .int .i64 0, .int .i64 0, .int .i64 0, .int .i64 0, .int .i64 0, .int .i64 0, .int .i64 0] 125)).heap[w.heap.size]? = some (.cells zero10 125 (0, 0)) := World.alloc_heap_new w _
  have hB0 : Below w.heap.size w (w.alloc (.cells #[.int .i64 0, .int .i64 0, .int .i64 0, .int .i64 0, .int .i64 0, .int .i64 0, .int .i64 0, .int .i64 0, .int .i64 0, .int .i64 0] 125)) := (Below.refl _ w).alloc (Nat.le_refl _) _
  generalize (w.alloc (.cells #[.int .i64 0, .int .i64 0, .int .i64 0, .int .i64 0, .int .i64 0, .int .i64 0, .int .i64 0, .int .i64 0, .int .i64 0, .int .i64 0] 125)) = W0 at *
  obtain ⟨g0, hg0⟩ : ∃ g0, w.heap.size = g0 := ⟨_, rfl⟩
  rw [hg0] at hW0 ⊢
  have hlt0 : g0 < W0.heap.size := (Array.getElem?_eq_some_iff.1 hW0).1
  apply wp_region_lit
  refine wpList_buildFlatArrTo rfl 125 3 10 _ rfl .i64 (rowT 1) (some 4) rfl Try.underlying125 one3b zero125 (by kernel_rfl) ?_
  refine wpList_buildFlatArrTo rfl 125 3 10 _ rfl .i64 (rowT 2) (some 5) rfl Try.underlying125 one3b zero125 (by kernel_rfl) ?_
  refine wpList_buildFlatArrTo rfl 125 3 10 _ rfl .i64 (rowT 3) (some 6) rfl Try.underlying125 one3b zero125 (by kernel_rfl) ?_
  refine wpList_buildFlatArrTo rfl 125 3 10 _ rfl .i64 (rowT 4) (some 7) rfl Try.underlying125 one3b zero125 (by kernel_rfl) ?_
  refine wpList_buildFlatArrTo rfl 125 3 10 _ rfl .i64 (rowT 5) (some 8) rfl Try.underlying125 one3b zero125 (by kernel_rfl) ?_
  refine wpList_buildFlatArrTo rfl 125 3 10 _ rfl .i64 (rowT 6) (some 9) rfl Try.underlying125 one3b zero125 (by kernel_rfl) ?_
  refine wpList_buildFlatArrTo rfl 125 3 10 _ rfl .i64 (rowT 7) (some 10) rfl Try.underlying125 one3b zero125 (by kernel_rfl) ?_
  refine wpList_buildFlatArrTo rfl 125 3 10 _ rfl .i64 (rowT 8) (some 11) rfl Try.underlying125 one3b zero125 (by kernel_rfl) ?_
  refine wpList_buildFlatArrTo rfl 125 3 10 _ rfl .i64 (rowT 9) (some 12) rfl Try.underlying125 one3b zero125 (by kernel_rfl) ?_
  refine wpList_buildFlatArrTo rfl 125 3 10 _ rfl .i64 (rowT 10) (some 13) rfl Try.underlying125 one3b zero125 (by kernel_rfl) ?_
  refine wpList_buildFlatArrTo rfl 125 3 10 _ rfl .i64 (rowT 11) (some 14) rfl Try.underlying125 one3b zero125 (by kernel_rfl) ?_
  refine wpList_buildFlatArrTo rfl 125 3 10 _ rfl .i64 (rowT 12) (some 15) rfl Try.underlying125 one3b zero125 (by kernel_rfl) ?_
  refine wpList_buildFlatArrTo rfl 125 3 10 _ rfl .i64 (rowT 13) (some 16) rfl Try.underlying125 one3b zero125 (by kernel_rfl) ?_
  refine wpList_buildFlatArrTo rfl 125 3 10 _ rfl .i64 (rowT 14) (some 17) rfl Try.underlying125 one3b zero125 (by kernel_rfl) ?_
  refine wpList_buildFlatArrTo rfl 125 3 10 _ rfl .i64 (rowT 15) (some 18) rfl Try.underlying125 one3b zero125 (by kernel_rfl) ?_
  refine wpList_buildFlatArrTo rfl 125 3 10 _ rfl .i64 (rowT 16) (some 19) rfl Try.underlying125 one3b zero125 (by kernel_rfl) ?_
  refine wpList_buildFlatArrTo rfl 125 3 10 _ rfl .i64 (rowT 17) (some 20) rfl Try.underlying125 one3b zero125 (by kernel_rfl) ?_
  refine wpList_buildFlatArrTo rfl 125 3 10 _ rfl .i64 (rowT 18) (some 21) rfl Try.underlying125 one3b zero125 (by kernel_rfl) ?_
  refine wpList_buildFlatArrTo rfl 125 3 10 _ rfl .i64 (rowT 19) (some 22) rfl Try.underlying125 one3b zero125 (by kernel_rfl) ?_
  refine wpList_buildFlatArrTo rfl 125 3 10 _ rfl .i64 (rowT 20) (some 23) rfl Try.underlying125 one3b zero125 (by kernel_rfl) ?_
  refine wpList_buildFlatArrTo rfl 125 3 10 _ rfl .i64 (rowT 21) (some 24) rfl Try.underlying125 one3b zero125 (by kernel_rfl) ?_
  refine wpList_buildFlatArrTo rfl 125 3 10 _ rfl .i64 (rowT 22) (some 25) rfl Try.underlying125 one3b zero125 (by kernel_rfl) ?_
  refine wpList_buildFlatArrTo rfl 125 3 10 _ rfl .i64 (rowT 23) (some 26) rfl Try.underlying125 one3b zero125 (by kernel_rfl) ?_
  refine wpList_buildFlatArrTo rfl 125 3 10 _ rfl .i64 (rowT 24) (some 27) rfl Try.underlying125 one3b zero125 (by kernel_rfl) ?_
  refine wpList_buildFlatArrTo rfl 125 3 10 _ rfl .i64 (rowT 25) (some 28) rfl Try.underlying125 one3b zero125 (by kernel_rfl) ?_
  refine wpList_buildFlatArrTo rfl 125 3 10 _ rfl .i64 (rowT 26) (some 29) rfl Try.underlying125 one3b zero125 (by kernel_rfl) ?_
  refine wpList_buildFlatArrTo rfl 125 3 10 _ rfl .i64 (rowT 27) (some 30) rfl Try.underlying125 one3b zero125 (by kernel_rfl) ?_
  refine wpList_buildFlatArrTo rfl 125 3 10 _ rfl .i64 (rowT 28) (some 31) rfl Try.underlying125 one3b zero125 (by kernel_rfl) ?_
  refine wpList_buildFlatArrTo rfl 125 3 10 _ rfl .i64 (rowT 29) (some 32) rfl Try.underlying125 one3b zero125 (by kernel_rfl) ?_
  refine wpList_buildFlatArrTo rfl 125 3 10 _ rfl .i64 (rowT 30) (some 33) rfl Try.underlying125 one3b zero125 (by kernel_rfl) ?_
  refine wpList_buildFlatArrTo rfl 125 3 10 _ rfl .i64 (rowT 31) (some 34) rfl Try.underlying125 one3b zero125 (by kernel_rfl) ?_
  refine wpList_buildFlatArrTo rfl 125 3 10 _ rfl .i64 (rowT 32) (some 35) rfl Try.underlying125 one3b zero125 (by kernel_rfl) ?_
  refine wpList_buildFlatArrTo rfl 125 3 10 _ rfl .i64 (rowT 33) (some 36) rfl Try.underlying125 one3b zero125 (by kernel_rfl) ?_
  refine wpList_buildFlatArrTo rfl 125 3 10 _ rfl .i64 (rowT 34) (some 37) rfl Try.underlying125 one3b zero125 (by kernel_rfl) ?_
  refine wpList_buildFlatArrTo rfl 125 3 10 _ rfl .i64 (rowT 35) (some 38) rfl Try.underlying125 one3b zero125 (by kernel_rfl) ?_
  refine wpList_buildFlatArrTo rfl 125 3 10 _ rfl .i64 (rowT 36) (some 39) rfl Try.underlying125 one3b zero125 (by kernel_rfl) ?_
  refine wpList_buildFlatArrTo rfl 125 3 10 _ rfl .i64 (rowT 37) (some 40) rfl Try.underlying125 one3b zero125 (by kernel_rfl) ?_
  refine wpList_buildFlatArrTo rfl 125 3 10 _ rfl .i64 (rowT 38) (some 41) rfl Try.underlying125 one3b zero125 (by kernel_rfl) ?_
  refine wpList_buildFlatArrTo rfl 125 3 10 _ rfl .i64 (rowT 39) (some 42) rfl Try.underlying125 one3b zero125 (by kernel_rfl) ?_
  refine wpList_buildFlatArrTo rfl 125 3 10 _ rfl .i64 (rowT 40) (some 43) rfl Try.underlying125 one3b zero125 (by kernel_rfl) ?_
  refine wpList_buildTo rfl 135 _ rfl (some 44) rfl bigA (by as_aux_lemma => kernel_rfl) ?_
  refine Go.Great.wpList_allocTo rfl (some 3) rfl (.pointer (some ⟨W0.heap.size, 0, none⟩)) (.cells zero400 135) (by as_aux_lemma => kernel_rfl) ?_
  refine wpList_store_rowTo rfl 135 _ _ rfl rfl W0.heap.size bigA (by as_aux_lemma => kernel_rfl) (by as_aux_lemma => kernel_rfl) 135 zero400 (World.alloc_heap_new W0 _) size135 rfl (by decide +kernel) ?_
  refine wpList_frame (a' := ⟨#[.int .i64 v, undef, .pointer (some ⟨g0, 0, none⟩), .pointer (some ⟨W0.heap.size, 0, none⟩), .agg ((rowT 1).map (Value.int .i64)).toArray, .agg ((rowT 2).map (Value.int .i64)).toArray, .agg ((rowT 3).map (Value.int .i64)).toArray, .agg ((rowT 4).map (Value.int .i64)).toArray, .agg ((rowT 5).map (Value.int .i64)).toArray, .agg ((rowT 6).map (Value.int .i64)).toArray, .agg ((rowT 7).map (Value.int .i64)).toArray, .agg ((rowT 8).map (Value.int .i64)).toArray, .agg ((rowT 9).map (Value.int .i64)).toArray, .agg ((rowT 10).map (Value.int .i64)).toArray, .agg ((rowT 11).map (Value.int .i64)).toArray, .agg ((rowT 12).map (Value.int .i64)).toArray, .agg ((rowT 13).map (Value.int .i64)).toArray, .agg ((rowT 14).map (Value.int .i64)).toArray, .agg ((rowT 15).map (Value.int .i64)).toArray, .agg ((rowT 16).map (Value.int .i64)).toArray, .agg ((rowT 17).map (Value.int .i64)).toArray, .agg ((rowT 18).map (Value.int .i64)).toArray, .agg ((rowT 19).map (Value.int .i64)).toArray, .agg ((rowT 20).map (Value.int .i64)).toArray, .agg ((rowT 21).map (Value.int .i64)).toArray, .agg ((rowT 22).map (Value.int .i64)).toArray, .agg ((rowT 23).map (Value.int .i64)).toArray, .agg ((rowT 24).map (Value.int .i64)).toArray, .agg ((rowT 25).map (Value.int .i64)).toArray, .agg ((rowT 26).map (Value.int .i64)).toArray, .agg ((rowT 27).map (Value.int .i64)).toArray, .agg ((rowT 28).map (Value.int .i64)).toArray, .agg ((rowT 29).map (Value.int .i64)).toArray, .agg ((rowT 30).map (Value.int .i64)).toArray, .agg ((rowT 31).map (Value.int .i64)).toArray, .agg ((rowT 32).map (Value.int .i64)).toArray, .agg ((rowT 33).map (Value.int .i64)).toArray, .agg ((rowT 34).map (Value.int .i64)).toArray, .agg ((rowT 35).map (Value.int .i64)).toArray, .agg ((rowT 36).map (Value.int .i64)).toArray, .agg ((rowT 37).map (Value.int .i64)).toArray, .agg ((rowT 38).map (Value.int .i64)).toArray, .agg ((rowT 39).map (Value.int .i64)).toArray, .agg ((rowT 40).map (Value.int .i64)).toArray, .agg bigA, undef, undef, undef, undef], []⟩) (by as_aux_lemma => kernel_rfl) ?_
  have hW1 := setRow_heap (W0.alloc (.cells zero400 135)) W0.heap.size _ bigA 135 (0, 0) (World.alloc_heap_new W0 (.cells zero400 135))
  have hW2 : ((W0.alloc (.cells zero400 135)).setRow W0.heap.size bigA).heap[g0]? = some (.cells zero10 125 (0, 0)) := (setRow_other _ _ _ _ (by omega)).trans ((Below.heap_alloc _ _ _ hlt0).trans hW0)
  have hB1 : Below w.heap.size w ((W0.alloc (.cells zero400 135)).setRow W0.heap.size bigA) := below_setRow (hB0.alloc hB0.size _) hB0.size _
  generalize ((W0.alloc (.cells zero400 135)).setRow W0.heap.size bigA) = W1 at *
  generalize W0.heap.size = g1 at *
  generalize (Value.agg ((rowT 1).map (Value.int .i64)).toArray) = u1
  generalize (Value.agg ((rowT 2).map (Value.int .i64)).toArray) = u2
  generalize (Value.agg ((rowT 3).map (Value.int .i64)).toArray) = u3
  generalize (Value.agg ((rowT 4).map (Value.int .i64)).toArray) = u4
  generalize (Value.agg ((rowT 5).map (Value.int .i64)).toArray) = u5
  generalize (Value.agg ((rowT 6).map (Value.int .i64)).toArray) = u6
  generalize (Value.agg ((rowT 7).map (Value.int .i64)).toArray) = u7
  generalize (Value.agg ((rowT 8).map (Value.int .i64)).toArray) = u8
  generalize (Value.agg ((rowT 9).map (Value.int .i64)).toArray) = u9
  generalize (Value.agg ((rowT 10).map (Value.int .i64)).toArray) = u10
  generalize (Value.agg ((rowT 11).map (Value.int .i64)).toArray) = u11
  generalize (Value.agg ((rowT 12).map (Value.int .i64)).toArray) = u12
  generalize (Value.agg ((rowT 13).map (Value.int .i64)).toArray) = u13
  generalize (Value.agg ((rowT 14).map (Value.int .i64)).toArray) = u14
  generalize (Value.agg ((rowT 15).map (Value.int .i64)).toArray) = u15
  generalize (Value.agg ((rowT 16).map (Value.int .i64)).toArray) = u16
  generalize (Value.agg ((rowT 17).map (Value.int .i64)).toArray) = u17
  generalize (Value.agg ((rowT 18).map (Value.int .i64)).toArray) = u18
  generalize (Value.agg ((rowT 19).map (Value.int .i64)).toArray) = u19
  generalize (Value.agg ((rowT 20).map (Value.int .i64)).toArray) = u20
  generalize (Value.agg ((rowT 21).map (Value.int .i64)).toArray) = u21
  generalize (Value.agg ((rowT 22).map (Value.int .i64)).toArray) = u22
  generalize (Value.agg ((rowT 23).map (Value.int .i64)).toArray) = u23
  generalize (Value.agg ((rowT 24).map (Value.int .i64)).toArray) = u24
  generalize (Value.agg ((rowT 25).map (Value.int .i64)).toArray) = u25
  generalize (Value.agg ((rowT 26).map (Value.int .i64)).toArray) = u26
  generalize (Value.agg ((rowT 27).map (Value.int .i64)).toArray) = u27
  generalize (Value.agg ((rowT 28).map (Value.int .i64)).toArray) = u28
  generalize (Value.agg ((rowT 29).map (Value.int .i64)).toArray) = u29
  generalize (Value.agg ((rowT 30).map (Value.int .i64)).toArray) = u30
  generalize (Value.agg ((rowT 31).map (Value.int .i64)).toArray) = u31
  generalize (Value.agg ((rowT 32).map (Value.int .i64)).toArray) = u32
  generalize (Value.agg ((rowT 33).map (Value.int .i64)).toArray) = u33
  generalize (Value.agg ((rowT 34).map (Value.int .i64)).toArray) = u34
  generalize (Value.agg ((rowT 35).map (Value.int .i64)).toArray) = u35
  generalize (Value.agg ((rowT 36).map (Value.int .i64)).toArray) = u36
  generalize (Value.agg ((rowT 37).map (Value.int .i64)).toArray) = u37
  generalize (Value.agg ((rowT 38).map (Value.int .i64)).toArray) = u38
  generalize (Value.agg ((rowT 39).map (Value.int .i64)).toArray) = u39
  generalize (Value.agg ((rowT 40).map (Value.int .i64)).toArray) = u40
  generalize (Value.agg bigA) = ub
  apply wpList_nil
  obtain ⟨p, rfl⟩ : ∃ p, v = p + 1 := ⟨v - 1, by omega⟩
  dsimp only
  have q0 : (0 : Int) ≤ (p : Int) := by omega
  have q1 : (p : Int) < 40 := by omega
  have hr : W1.rangeAt g1 (p * 10) ((rowT (p + 1)).map (Value.int .i64)) := range_big hW1 p (by omega)
  have hlen : ((rowT (p + 1)).map (Value.int .i64)).length = 10 := by rw [List.length_map]; exact len_row p (by omega)
  have hsz : (Try.prog.info? 125).map (·.size) = some ((rowT (p + 1)).map (Value.int .i64)).length := by rw [hlen]; exact size125
  have hsz2 : (Try.prog.info? 125).map (·.size) = some ((rowT (p + 1)).map (Value.int .i64)).toArray.size := by rw [List.size_toArray]; exact hsz
  have h10 : zero10.size = 10 := rfl
  have hsz3 : zero10.size = ((rowT (p + 1)).map (Value.int .i64)).toArray.size := by rw [h10, List.size_toArray, hlen]
  have hone : ((rowT (p + 1)).map (Value.int .i64)).toArray.all (·.oneCell') = true := all_oneCell_toArray (fun u hu => by obtain ⟨x, _, rfl⟩ := List.mem_map.1 hu; rfl)
  have HR := Lib.hid hr
  have HH := Lib.hid (And.intro hsz (And.intro hsz2 (And.intro hsz3 hone)))
  clear hr hlen hsz hsz2 hsz3 hone h10
  go_wp2_with (first
    | (refine wpList_load_mid rfl 125 (.tmp 47) rfl g1 (p * 10) rfl ((rowT (p + 1)).map (Value.int .i64)) _ HR.out Try.underlying125 rfl HH.out.1 ?_)
    | (refine wpList_store_row rfl 125 (.tmp 2) (.tmp 48) rfl g0 ((rowT (p + 1)).map (Value.int .i64)).toArray rfl rfl 125 _ hW2 HH.out.2.1 HH.out.2.2.1 HH.out.2.2.2 ?_))
  refine bodyPost_ret (results_cell_row rfl _ _ g0 125 ((rowT (p + 1)).map (Value.int .i64)).toArray (0, 0) _ rfl (setRow_heap _ _ _ _ _ _ hW2) Try.underlying125 rfl HH.out.2.1) rfl ?_
  rw [hg0] at hB1
  refine ⟨rfl, ?_⟩
  first
  | exact below_setRow hB1 (Nat.le_refl _) _
  | (rw [hg0]; exact below_setRow hB1 (Nat.le_refl _) _)

end Go.Proofs.Ytifgpjhodajccaa
