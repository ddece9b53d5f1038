/-
  The walk of 'read' of the reference of package code128. Condition: the state and the value are small.
-/
import Derived.Test.YtofedeokliljkaaWalkZ
namespace Go.Proofs.Ytofedeokliljkaa
open Go.RowKit
set_option linter.unusedVariables false

/-- What 'read' computes: the code set, whether a shift stands, the characters. -/
def readF (set : Int) (sh : Bool) (acc : List Int) (v : Int) : Option (Int × Bool × List Int) :=
  if sh = true then (if 95 < v then none else if v < 64 then some (set, false, acc ++ [v + 32]) else if 1 - set = 0 then some (set, false, acc ++ [v - 64]) else some (set, false, acc ++ [v + 32]))
  else if 102 < v then none else if v = 102 then some (set, false, acc ++ [256]) else if set = 2 ∧ v ≤ 99 then some (set, false, acc ++ [48 + v / 10, 48 + v % 10])
  else if v < 64 then some (set, false, acc ++ [v + 32]) else if v < 96 ∧ set = 0 then some (set, false, acc ++ [v - 64]) else if v < 96 then some (set, false, acc ++ [v + 32])
  else if v = 96 then some (set, false, acc ++ [258]) else if v = 97 then some (set, false, acc ++ [257]) else if v = 98 then some (set, true, acc) else if v = 99 then some (2, false, acc)
  else if v = 101 - set ∧ set < 2 then some (set, false, acc ++ [259]) else some (101 - v, false, acc)

theorem grown_setCell {w w1 : World} {row : Option Nat} (h : w.grownBy w1 row) {p : Addr} (hp : w.heap.size ≤ p.block) (v : Value) : w.grownBy (w1.setCell p v) row :=
  ⟨h.os, h.tape, h.output, by have := h.size; simpa [World.setCell] using this, fun i hi hne => (Below.heap_setCell _ _ _ _ (by omega)).trans (h.block i hi hne)⟩

theorem grown_alloc {w w1 : World} {row : Option Nat} {b : Obj} (h : (w.alloc b).grownBy w1 row) : w.grownBy w1 row :=
  ⟨h.os, h.tape, h.output, by have := h.size; simp at this; omega, fun i hi hne => (h.block i (by simp; omega) hne).trans (Below.heap_alloc _ _ _ hi)⟩

theorem grown_refl (w : World) (row : Option Nat) : w.grownBy w row := ⟨rfl, rfl, rfl, Nat.le_refl _, fun _ _ _ => rfl⟩

theorem own_setCell {w : World} {B e s n : Nat} {v x : Value} {xs : List Value} {p : Addr} (h : w.ownsRow B e s v n xs) (hne : v.ownBlock ≠ some p.block) : (w.setCell p x).ownsRow B e s v n xs := by
  obtain ⟨h1, h2⟩ := h
  refine ⟨h1, ?_⟩
  rcases h2 with h2 | ⟨g, cap, cur, rfl, e2, hg, e3⟩
  · exact .inl h2
  · refine .inr ⟨g, cap, cur, rfl, e2, (Below.heap_setCell _ _ _ _ ?_).trans hg, e3⟩
    intro e; exact hne (by rw [← e]; rfl)

theorem own_ge_ne {w : World} {B e s n b : Nat} {v : Value} {xs : List Value} (h : w.ownsRow B e s v n xs) (hb : w.heap.size ≤ b) : v.ownBlock ≠ some b := by
  rcases h.2 with ⟨rfl, _⟩ | ⟨g, cap, cur, rfl, _, hg, _⟩
  · simp [Value.ownBlock]
  · have := (Array.getElem?_eq_some_iff.1 hg).1
    intro e
    have e' : g = b := by simpa [Value.ownBlock] using e
    omega

theorem cells3 {w : World} {b : Nat} {x y z : Value} {t : TypeId} (h : w.heap[b]? = some (.cells #[x, y, z] t (0, 0))) :
    w.cell? ⟨b, 0, none⟩ = some x ∧ w.cell? ⟨b, 1, none⟩ = some y ∧ w.cell? ⟨b, 2, none⟩ = some z ∧ w.frozen? ⟨b, 0, none⟩ = false ∧ w.frozen? ⟨b, 1, none⟩ = false ∧ w.frozen? ⟨b, 2, none⟩ = false := by
  simp [World.cell?, World.frozen?, h]

def RetS (r : Option (Int × Bool × List Int)) (B : Nat) (ov : Value) (w : World) (e : Ending) (w' : World) : Prop :=
  match r with
  | none => ∃ x y a n c, e = .returned (.tuple #[.agg #[.int .i64 x, .bool y, .slice a n c], .bool false]) ∧ w.grownBy w' ov.ownBlock
  | some (s, sh, acc) => ∃ ov', e = .returned (.tuple #[.agg #[.int .i64 s, .bool sh, ov'], .bool true]) ∧ w'.ownsRow B 3 1 ov' acc.length (acc.map (Value.int .i64)) ∧ w.grownBy w' ov.ownBlock

set_option maxRecDepth 100000 in
set_option maxHeartbeats 2000000 in
theorem read_102 (set : Int) (oa : Option Addr) (oc : Nat) (acc : List Int) (B : Nat) (w : World) (hown : w.ownsRow B 3 1 (.slice oa acc.length oc) acc.length (acc.map (Value.int .i64))) (hB : B ≤ w.heap.size) (hl : acc.length ≤ 1099511627776)  :
    Calls Try.prog 28 #[.agg #[.int .i64 set, .bool false, (.slice oa acc.length oc)], .int .i64 102] w (RetS (some (set, false, acc ++ [256])) B (.slice oa acc.length oc) w) := by
  obtain ⟨i3, hi3, hz3a, hz3b, hz3c⟩ := info_parts info3
  have hn0 := own_ge_ne hown (Nat.le_refl _)
  have hn1 := own_ge_ne hown (Nat.le_add_right _ 1)
  have hn2 := own_ge_ne hown (Nat.le_add_right _ 2)
  go_enter Try.func28, Try.ntmps28
  go_wp2_with (at_builtin; refine wpList_append_own _ rfl _ _ 22 rfl B 3 i3 (.int .i64 0) 1 8 Try.underlying22 hi3 hz3a hz3b hz3c rfl (by decide) _ _ _ rfl (((hown.alloc _).alloc _).alloc _) ⟨w.heap.size + 2, 0, none⟩ 1 1 [.int .i64 256] rfl rfl (cells_new2 _ _ _ (by simp)) (by simp [Value.oneCell']) ?c3 ?c4 ?c5 ?_)
  case c3 => unfold maxLen; omega
  case c4 => omega
  case c5 => simp; omega
  intro v' w4 hown' hgrow _
  have hbx : w4.heap[w.heap.size]? = some (.cells #[.int .i64 set, .bool false, (.slice oa acc.length oc)] 44 (0, 0)) := (hgrow.block _ (by simp; omega) (fun e => hn0 e.symm)).trans ((Below.heap_alloc _ _ _ (by simp; omega)).trans ((Below.heap_alloc _ _ _ (by simp)).trans (World.alloc_heap_new w _)))
  have hrx : w4.heap[w.heap.size + 1]? = some (.cells #[.int .i64 0, .bool false, .slice none 0 0] 44 (0, 0)) := (hgrow.block _ (by simp) (fun e => hn1 e.symm)).trans ((Below.heap_alloc _ _ _ (by simp)).trans (by have := World.alloc_heap_new (w.alloc (.cells #[.int .i64 set, .bool false, (.slice oa acc.length oc)] 44)) (.cells #[.int .i64 0, .bool false, .slice none 0 0] 44); simpa using this))
  have hG := grown_alloc (grown_alloc (grown_alloc hgrow))
  obtain ⟨ga, gc, rfl, _⟩ := own_rd hown'
  have hnb := own_type_ne hown' hbx (by decide)
  have hnr := own_type_ne hown' hrx (by decide)
  obtain ⟨x0, x1, x2, z0, z1, z2⟩ := cells3 hbx
  obtain ⟨y0, y1, y2, q0, q1, q2⟩ := cells3 hrx
  have HO := Lib.hid hown'
  have HG := Lib.hid hG
  clear hgrow hown' hbx hrx hG
  go_wp2
  exact bodyPost_ret (v := .tuple #[.agg #[.int .i64 set, .bool false, .slice ga (acc.length + 1) gc], .bool true]) (by simp [results, Try.results28, go_sem, *]) rfl
    ⟨_, rfl, own_congr (own_setCell (own_setCell (own_setCell (own_setCell HO.out hnb) hnr) hnr) hnr) (by simp) (by simp), grown_setCell (grown_setCell (grown_setCell (grown_setCell HG.out (Nat.le_refl _) _) (Nat.le_add_right _ 1) _) (Nat.le_add_right _ 1) _) (Nat.le_add_right _ 1) _⟩

set_option maxRecDepth 100000 in
set_option maxHeartbeats 2000000 in
theorem read_pair (v : Int) (oa : Option Addr) (oc : Nat) (acc : List Int) (B : Nat) (w : World) (hown : w.ownsRow B 3 1 (.slice oa acc.length oc) acc.length (acc.map (Value.int .i64))) (hB : B ≤ w.heap.size) (hl : acc.length ≤ 1099511627776) (hv0 : 0 ≤ v) (hv1 : v ≤ 99) :
    Calls Try.prog 28 #[.agg #[.int .i64 2, .bool false, (.slice oa acc.length oc)], .int .i64 v] w (RetS (some (2, false, acc ++ [48 + v / 10, 48 + v % 10])) B (.slice oa acc.length oc) w) := by
  obtain ⟨i3, hi3, hz3a, hz3b, hz3c⟩ := info_parts info3
  have f1 : decide (102 < v) = false := by simp; omega
  have f2 : (v == 102) = false := by simp; omega
  have f3 : decide (v ≤ 99) = true := by simp; omega
  have hn0 := own_ge_ne hown (Nat.le_refl _)
  have hn1 := own_ge_ne hown (Nat.le_add_right _ 1)
  have hn2 := own_ge_ne hown (Nat.le_add_right _ 2)
  go_enter Try.func28, Try.ntmps28
  go_wp2_with (at_builtin; refine wpList_append_own _ rfl _ _ 22 rfl B 3 i3 (.int .i64 0) 1 8 Try.underlying22 hi3 hz3a hz3b hz3c rfl (by decide) _ _ _ rfl (((hown.alloc _).alloc _).alloc _) ⟨w.heap.size + 2, 0, none⟩ 2 2 [.int .i64 (48 + v / 10), .int .i64 (48 + v % 10)] rfl rfl (cells_new2 _ _ _ (by simp)) (by simp [Value.oneCell']) ?c3 ?c4 ?c5 ?_)
  case c3 => unfold maxLen; omega
  case c4 => omega
  case c5 => simp; omega
  intro v' w4 hown' hgrow _
  have hbx : w4.heap[w.heap.size]? = some (.cells #[.int .i64 2, .bool false, (.slice oa acc.length oc)] 44 (0, 0)) := (hgrow.block _ (by simp; omega) (fun e => hn0 e.symm)).trans ((Below.heap_alloc _ _ _ (by simp; omega)).trans ((Below.heap_alloc _ _ _ (by simp)).trans (World.alloc_heap_new w _)))
  have hrx : w4.heap[w.heap.size + 1]? = some (.cells #[.int .i64 0, .bool false, .slice none 0 0] 44 (0, 0)) := (hgrow.block _ (by simp) (fun e => hn1 e.symm)).trans ((Below.heap_alloc _ _ _ (by simp)).trans (by have := World.alloc_heap_new (w.alloc (.cells #[.int .i64 2, .bool false, (.slice oa acc.length oc)] 44)) (.cells #[.int .i64 0, .bool false, .slice none 0 0] 44); simpa using this))
  have hG := grown_alloc (grown_alloc (grown_alloc hgrow))
  obtain ⟨ga, gc, rfl, _⟩ := own_rd hown'
  have hnb := own_type_ne hown' hbx (by decide)
  have hnr := own_type_ne hown' hrx (by decide)
  obtain ⟨x0, x1, x2, z0, z1, z2⟩ := cells3 hbx
  obtain ⟨y0, y1, y2, q0, q1, q2⟩ := cells3 hrx
  have HO := Lib.hid hown'
  have HG := Lib.hid hG
  clear hgrow hown' hbx hrx hG
  go_wp2
  exact bodyPost_ret (v := .tuple #[.agg #[.int .i64 2, .bool false, .slice ga (acc.length + 2) gc], .bool true]) (by simp [results, Try.results28, go_sem, *]) rfl
    ⟨_, rfl, own_congr (own_setCell (own_setCell (own_setCell (own_setCell HO.out hnb) hnr) hnr) hnr) (by simp) (by simp), grown_setCell (grown_setCell (grown_setCell (grown_setCell HG.out (Nat.le_refl _) _) (Nat.le_add_right _ 1) _) (Nat.le_add_right _ 1) _) (Nat.le_add_right _ 1) _⟩

set_option maxRecDepth 100000 in
set_option maxHeartbeats 2000000 in
theorem read_low (set v : Int) (oa : Option Addr) (oc : Nat) (acc : List Int) (B : Nat) (w : World) (hown : w.ownsRow B 3 1 (.slice oa acc.length oc) acc.length (acc.map (Value.int .i64))) (hB : B ≤ w.heap.size) (hl : acc.length ≤ 1099511627776) (hs : set ≠ 2) (hv0 : 0 ≤ v) (hv1 : v < 64) :
    Calls Try.prog 28 #[.agg #[.int .i64 set, .bool false, (.slice oa acc.length oc)], .int .i64 v] w (RetS (some (set, false, acc ++ [v + 32])) B (.slice oa acc.length oc) w) := by
  obtain ⟨i3, hi3, hz3a, hz3b, hz3c⟩ := info_parts info3
  have e0 : (set == 2) = false := by simpa using hs
  have f1 : decide (102 < v) = false := by simp; omega
  have f2 : (v == 102) = false := by simp; omega
  have f4 : decide (v < 64) = true := by simp; omega
  have hn0 := own_ge_ne hown (Nat.le_refl _)
  have hn1 := own_ge_ne hown (Nat.le_add_right _ 1)
  have hn2 := own_ge_ne hown (Nat.le_add_right _ 2)
  go_enter Try.func28, Try.ntmps28
  go_wp2_with (at_builtin; refine wpList_append_own _ rfl _ _ 22 rfl B 3 i3 (.int .i64 0) 1 8 Try.underlying22 hi3 hz3a hz3b hz3c rfl (by decide) _ _ _ rfl (((hown.alloc _).alloc _).alloc _) ⟨w.heap.size + 2, 0, none⟩ 1 1 [.int .i64 (v + 32)] rfl rfl (cells_new2 _ _ _ (by simp)) (by simp [Value.oneCell']) ?c3 ?c4 ?c5 ?_)
  case c3 => unfold maxLen; omega
  case c4 => omega
  case c5 => simp; omega
  intro v' w4 hown' hgrow _
  have hbx : w4.heap[w.heap.size]? = some (.cells #[.int .i64 set, .bool false, (.slice oa acc.length oc)] 44 (0, 0)) := (hgrow.block _ (by simp; omega) (fun e => hn0 e.symm)).trans ((Below.heap_alloc _ _ _ (by simp; omega)).trans ((Below.heap_alloc _ _ _ (by simp)).trans (World.alloc_heap_new w _)))
  have hrx : w4.heap[w.heap.size + 1]? = some (.cells #[.int .i64 0, .bool false, .slice none 0 0] 44 (0, 0)) := (hgrow.block _ (by simp) (fun e => hn1 e.symm)).trans ((Below.heap_alloc _ _ _ (by simp)).trans (by have := World.alloc_heap_new (w.alloc (.cells #[.int .i64 set, .bool false, (.slice oa acc.length oc)] 44)) (.cells #[.int .i64 0, .bool false, .slice none 0 0] 44); simpa using this))
  have hG := grown_alloc (grown_alloc (grown_alloc hgrow))
  obtain ⟨ga, gc, rfl, _⟩ := own_rd hown'
  have hnb := own_type_ne hown' hbx (by decide)
  have hnr := own_type_ne hown' hrx (by decide)
  obtain ⟨x0, x1, x2, z0, z1, z2⟩ := cells3 hbx
  obtain ⟨y0, y1, y2, q0, q1, q2⟩ := cells3 hrx
  have HO := Lib.hid hown'
  have HG := Lib.hid hG
  clear hgrow hown' hbx hrx hG
  go_wp2
  exact bodyPost_ret (v := .tuple #[.agg #[.int .i64 set, .bool false, .slice ga (acc.length + 1) gc], .bool true]) (by simp [results, Try.results28, go_sem, *]) rfl
    ⟨_, rfl, own_congr (own_setCell (own_setCell (own_setCell (own_setCell HO.out hnb) hnr) hnr) hnr) (by simp) (by simp), grown_setCell (grown_setCell (grown_setCell (grown_setCell HG.out (Nat.le_refl _) _) (Nat.le_add_right _ 1) _) (Nat.le_add_right _ 1) _) (Nat.le_add_right _ 1) _⟩

set_option maxRecDepth 100000 in
set_option maxHeartbeats 2000000 in
theorem read_midA (v : Int) (oa : Option Addr) (oc : Nat) (acc : List Int) (B : Nat) (w : World) (hown : w.ownsRow B 3 1 (.slice oa acc.length oc) acc.length (acc.map (Value.int .i64))) (hB : B ≤ w.heap.size) (hl : acc.length ≤ 1099511627776) (hv0 : 64 ≤ v) (hv1 : v < 96) :
    Calls Try.prog 28 #[.agg #[.int .i64 0, .bool false, (.slice oa acc.length oc)], .int .i64 v] w (RetS (some (0, false, acc ++ [v - 64])) B (.slice oa acc.length oc) w) := by
  obtain ⟨i3, hi3, hz3a, hz3b, hz3c⟩ := info_parts info3
  have f1 : decide (102 < v) = false := by simp; omega
  have f2 : (v == 102) = false := by simp; omega
  have f4 : decide (v < 64) = false := by simp; omega
  have f5 : decide (v < 96) = true := by simp; omega
  have hn0 := own_ge_ne hown (Nat.le_refl _)
  have hn1 := own_ge_ne hown (Nat.le_add_right _ 1)
  have hn2 := own_ge_ne hown (Nat.le_add_right _ 2)
  go_enter Try.func28, Try.ntmps28
  go_wp2_with (at_builtin; refine wpList_append_own _ rfl _ _ 22 rfl B 3 i3 (.int .i64 0) 1 8 Try.underlying22 hi3 hz3a hz3b hz3c rfl (by decide) _ _ _ rfl (((hown.alloc _).alloc _).alloc _) ⟨w.heap.size + 2, 0, none⟩ 1 1 [.int .i64 (v - 64)] rfl rfl (cells_new2 _ _ _ (by simp)) (by simp [Value.oneCell']) ?c3 ?c4 ?c5 ?_)
  case c3 => unfold maxLen; omega
  case c4 => omega
  case c5 => simp; omega
  intro v' w4 hown' hgrow _
  have hbx : w4.heap[w.heap.size]? = some (.cells #[.int .i64 0, .bool false, (.slice oa acc.length oc)] 44 (0, 0)) := (hgrow.block _ (by simp; omega) (fun e => hn0 e.symm)).trans ((Below.heap_alloc _ _ _ (by simp; omega)).trans ((Below.heap_alloc _ _ _ (by simp)).trans (World.alloc_heap_new w _)))
  have hrx : w4.heap[w.heap.size + 1]? = some (.cells #[.int .i64 0, .bool false, .slice none 0 0] 44 (0, 0)) := (hgrow.block _ (by simp) (fun e => hn1 e.symm)).trans ((Below.heap_alloc _ _ _ (by simp)).trans (by have := World.alloc_heap_new (w.alloc (.cells #[.int .i64 0, .bool false, (.slice oa acc.length oc)] 44)) (.cells #[.int .i64 0, .bool false, .slice none 0 0] 44); simpa using this))
  have hG := grown_alloc (grown_alloc (grown_alloc hgrow))
  obtain ⟨ga, gc, rfl, _⟩ := own_rd hown'
  have hnb := own_type_ne hown' hbx (by decide)
  have hnr := own_type_ne hown' hrx (by decide)
  obtain ⟨x0, x1, x2, z0, z1, z2⟩ := cells3 hbx
  obtain ⟨y0, y1, y2, q0, q1, q2⟩ := cells3 hrx
  have HO := Lib.hid hown'
  have HG := Lib.hid hG
  clear hgrow hown' hbx hrx hG
  go_wp2
  exact bodyPost_ret (v := .tuple #[.agg #[.int .i64 0, .bool false, .slice ga (acc.length + 1) gc], .bool true]) (by simp [results, Try.results28, go_sem, *]) rfl
    ⟨_, rfl, own_congr (own_setCell (own_setCell (own_setCell (own_setCell HO.out hnb) hnr) hnr) hnr) (by simp) (by simp), grown_setCell (grown_setCell (grown_setCell (grown_setCell HG.out (Nat.le_refl _) _) (Nat.le_add_right _ 1) _) (Nat.le_add_right _ 1) _) (Nat.le_add_right _ 1) _⟩

set_option maxRecDepth 100000 in
set_option maxHeartbeats 2000000 in
theorem read_midB (v : Int) (oa : Option Addr) (oc : Nat) (acc : List Int) (B : Nat) (w : World) (hown : w.ownsRow B 3 1 (.slice oa acc.length oc) acc.length (acc.map (Value.int .i64))) (hB : B ≤ w.heap.size) (hl : acc.length ≤ 1099511627776) (hv0 : 64 ≤ v) (hv1 : v < 96) :
    Calls Try.prog 28 #[.agg #[.int .i64 1, .bool false, (.slice oa acc.length oc)], .int .i64 v] w (RetS (some (1, false, acc ++ [v + 32])) B (.slice oa acc.length oc) w) := by
  obtain ⟨i3, hi3, hz3a, hz3b, hz3c⟩ := info_parts info3
  have f1 : decide (102 < v) = false := by simp; omega
  have f2 : (v == 102) = false := by simp; omega
  have f4 : decide (v < 64) = false := by simp; omega
  have f5 : decide (v < 96) = true := by simp; omega
  have hn0 := own_ge_ne hown (Nat.le_refl _)
  have hn1 := own_ge_ne hown (Nat.le_add_right _ 1)
  have hn2 := own_ge_ne hown (Nat.le_add_right _ 2)
  go_enter Try.func28, Try.ntmps28
  go_wp2_with (at_builtin; refine wpList_append_own _ rfl _ _ 22 rfl B 3 i3 (.int .i64 0) 1 8 Try.underlying22 hi3 hz3a hz3b hz3c rfl (by decide) _ _ _ rfl (((hown.alloc _).alloc _).alloc _) ⟨w.heap.size + 2, 0, none⟩ 1 1 [.int .i64 (v + 32)] rfl rfl (cells_new2 _ _ _ (by simp)) (by simp [Value.oneCell']) ?c3 ?c4 ?c5 ?_)
  case c3 => unfold maxLen; omega
  case c4 => omega
  case c5 => simp; omega
  intro v' w4 hown' hgrow _
  have hbx : w4.heap[w.heap.size]? = some (.cells #[.int .i64 1, .bool false, (.slice oa acc.length oc)] 44 (0, 0)) := (hgrow.block _ (by simp; omega) (fun e => hn0 e.symm)).trans ((Below.heap_alloc _ _ _ (by simp; omega)).trans ((Below.heap_alloc _ _ _ (by simp)).trans (World.alloc_heap_new w _)))
  have hrx : w4.heap[w.heap.size + 1]? = some (.cells #[.int .i64 0, .bool false, .slice none 0 0] 44 (0, 0)) := (hgrow.block _ (by simp) (fun e => hn1 e.symm)).trans ((Below.heap_alloc _ _ _ (by simp)).trans (by have := World.alloc_heap_new (w.alloc (.cells #[.int .i64 1, .bool false, (.slice oa acc.length oc)] 44)) (.cells #[.int .i64 0, .bool false, .slice none 0 0] 44); simpa using this))
  have hG := grown_alloc (grown_alloc (grown_alloc hgrow))
  obtain ⟨ga, gc, rfl, _⟩ := own_rd hown'
  have hnb := own_type_ne hown' hbx (by decide)
  have hnr := own_type_ne hown' hrx (by decide)
  obtain ⟨x0, x1, x2, z0, z1, z2⟩ := cells3 hbx
  obtain ⟨y0, y1, y2, q0, q1, q2⟩ := cells3 hrx
  have HO := Lib.hid hown'
  have HG := Lib.hid hG
  clear hgrow hown' hbx hrx hG
  go_wp2
  exact bodyPost_ret (v := .tuple #[.agg #[.int .i64 1, .bool false, .slice ga (acc.length + 1) gc], .bool true]) (by simp [results, Try.results28, go_sem, *]) rfl
    ⟨_, rfl, own_congr (own_setCell (own_setCell (own_setCell (own_setCell HO.out hnb) hnr) hnr) hnr) (by simp) (by simp), grown_setCell (grown_setCell (grown_setCell (grown_setCell HG.out (Nat.le_refl _) _) (Nat.le_add_right _ 1) _) (Nat.le_add_right _ 1) _) (Nat.le_add_right _ 1) _⟩

set_option maxRecDepth 100000 in
set_option maxHeartbeats 2000000 in
theorem read_96 (set : Int) (oa : Option Addr) (oc : Nat) (acc : List Int) (B : Nat) (w : World) (hown : w.ownsRow B 3 1 (.slice oa acc.length oc) acc.length (acc.map (Value.int .i64))) (hB : B ≤ w.heap.size) (hl : acc.length ≤ 1099511627776) (hs : set ≠ 2) :
    Calls Try.prog 28 #[.agg #[.int .i64 set, .bool false, (.slice oa acc.length oc)], .int .i64 96] w (RetS (some (set, false, acc ++ [258])) B (.slice oa acc.length oc) w) := by
  obtain ⟨i3, hi3, hz3a, hz3b, hz3c⟩ := info_parts info3
  have e0 : (set == 2) = false := by simpa using hs
  have hn0 := own_ge_ne hown (Nat.le_refl _)
  have hn1 := own_ge_ne hown (Nat.le_add_right _ 1)
  have hn2 := own_ge_ne hown (Nat.le_add_right _ 2)
  go_enter Try.func28, Try.ntmps28
  go_wp2_with (at_builtin; refine wpList_append_own _ rfl _ _ 22 rfl B 3 i3 (.int .i64 0) 1 8 Try.underlying22 hi3 hz3a hz3b hz3c rfl (by decide) _ _ _ rfl (((hown.alloc _).alloc _).alloc _) ⟨w.heap.size + 2, 0, none⟩ 1 1 [.int .i64 258] rfl rfl (cells_new2 _ _ _ (by simp)) (by simp [Value.oneCell']) ?c3 ?c4 ?c5 ?_)
  case c3 => unfold maxLen; omega
  case c4 => omega
  case c5 => simp; omega
  intro v' w4 hown' hgrow _
  have hbx : w4.heap[w.heap.size]? = some (.cells #[.int .i64 set, .bool false, (.slice oa acc.length oc)] 44 (0, 0)) := (hgrow.block _ (by simp; omega) (fun e => hn0 e.symm)).trans ((Below.heap_alloc _ _ _ (by simp; omega)).trans ((Below.heap_alloc _ _ _ (by simp)).trans (World.alloc_heap_new w _)))
  have hrx : w4.heap[w.heap.size + 1]? = some (.cells #[.int .i64 0, .bool false, .slice none 0 0] 44 (0, 0)) := (hgrow.block _ (by simp) (fun e => hn1 e.symm)).trans ((Below.heap_alloc _ _ _ (by simp)).trans (by have := World.alloc_heap_new (w.alloc (.cells #[.int .i64 set, .bool false, (.slice oa acc.length oc)] 44)) (.cells #[.int .i64 0, .bool false, .slice none 0 0] 44); simpa using this))
  have hG := grown_alloc (grown_alloc (grown_alloc hgrow))
  obtain ⟨ga, gc, rfl, _⟩ := own_rd hown'
  have hnb := own_type_ne hown' hbx (by decide)
  have hnr := own_type_ne hown' hrx (by decide)
  obtain ⟨x0, x1, x2, z0, z1, z2⟩ := cells3 hbx
  obtain ⟨y0, y1, y2, q0, q1, q2⟩ := cells3 hrx
  have HO := Lib.hid hown'
  have HG := Lib.hid hG
  clear hgrow hown' hbx hrx hG
  go_wp2
  exact bodyPost_ret (v := .tuple #[.agg #[.int .i64 set, .bool false, .slice ga (acc.length + 1) gc], .bool true]) (by simp [results, Try.results28, go_sem, *]) rfl
    ⟨_, rfl, own_congr (own_setCell (own_setCell (own_setCell (own_setCell HO.out hnb) hnr) hnr) hnr) (by simp) (by simp), grown_setCell (grown_setCell (grown_setCell (grown_setCell HG.out (Nat.le_refl _) _) (Nat.le_add_right _ 1) _) (Nat.le_add_right _ 1) _) (Nat.le_add_right _ 1) _⟩

set_option maxRecDepth 100000 in
set_option maxHeartbeats 2000000 in
theorem read_97 (set : Int) (oa : Option Addr) (oc : Nat) (acc : List Int) (B : Nat) (w : World) (hown : w.ownsRow B 3 1 (.slice oa acc.length oc) acc.length (acc.map (Value.int .i64))) (hB : B ≤ w.heap.size) (hl : acc.length ≤ 1099511627776) (hs : set ≠ 2) :
    Calls Try.prog 28 #[.agg #[.int .i64 set, .bool false, (.slice oa acc.length oc)], .int .i64 97] w (RetS (some (set, false, acc ++ [257])) B (.slice oa acc.length oc) w) := by
  obtain ⟨i3, hi3, hz3a, hz3b, hz3c⟩ := info_parts info3
  have e0 : (set == 2) = false := by simpa using hs
  have hn0 := own_ge_ne hown (Nat.le_refl _)
  have hn1 := own_ge_ne hown (Nat.le_add_right _ 1)
  have hn2 := own_ge_ne hown (Nat.le_add_right _ 2)
  go_enter Try.func28, Try.ntmps28
  go_wp2_with (at_builtin; refine wpList_append_own _ rfl _ _ 22 rfl B 3 i3 (.int .i64 0) 1 8 Try.underlying22 hi3 hz3a hz3b hz3c rfl (by decide) _ _ _ rfl (((hown.alloc _).alloc _).alloc _) ⟨w.heap.size + 2, 0, none⟩ 1 1 [.int .i64 257] rfl rfl (cells_new2 _ _ _ (by simp)) (by simp [Value.oneCell']) ?c3 ?c4 ?c5 ?_)
  case c3 => unfold maxLen; omega
  case c4 => omega
  case c5 => simp; omega
  intro v' w4 hown' hgrow _
  have hbx : w4.heap[w.heap.size]? = some (.cells #[.int .i64 set, .bool false, (.slice oa acc.length oc)] 44 (0, 0)) := (hgrow.block _ (by simp; omega) (fun e => hn0 e.symm)).trans ((Below.heap_alloc _ _ _ (by simp; omega)).trans ((Below.heap_alloc _ _ _ (by simp)).trans (World.alloc_heap_new w _)))
  have hrx : w4.heap[w.heap.size + 1]? = some (.cells #[.int .i64 0, .bool false, .slice none 0 0] 44 (0, 0)) := (hgrow.block _ (by simp) (fun e => hn1 e.symm)).trans ((Below.heap_alloc _ _ _ (by simp)).trans (by have := World.alloc_heap_new (w.alloc (.cells #[.int .i64 set, .bool false, (.slice oa acc.length oc)] 44)) (.cells #[.int .i64 0, .bool false, .slice none 0 0] 44); simpa using this))
  have hG := grown_alloc (grown_alloc (grown_alloc hgrow))
  obtain ⟨ga, gc, rfl, _⟩ := own_rd hown'
  have hnb := own_type_ne hown' hbx (by decide)
  have hnr := own_type_ne hown' hrx (by decide)
  obtain ⟨x0, x1, x2, z0, z1, z2⟩ := cells3 hbx
  obtain ⟨y0, y1, y2, q0, q1, q2⟩ := cells3 hrx
  have HO := Lib.hid hown'
  have HG := Lib.hid hG
  clear hgrow hown' hbx hrx hG
  go_wp2
  exact bodyPost_ret (v := .tuple #[.agg #[.int .i64 set, .bool false, .slice ga (acc.length + 1) gc], .bool true]) (by simp [results, Try.results28, go_sem, *]) rfl
    ⟨_, rfl, own_congr (own_setCell (own_setCell (own_setCell (own_setCell HO.out hnb) hnr) hnr) hnr) (by simp) (by simp), grown_setCell (grown_setCell (grown_setCell (grown_setCell HG.out (Nat.le_refl _) _) (Nat.le_add_right _ 1) _) (Nat.le_add_right _ 1) _) (Nat.le_add_right _ 1) _⟩

set_option maxRecDepth 100000 in
set_option maxHeartbeats 2000000 in
theorem read_f4a (oa : Option Addr) (oc : Nat) (acc : List Int) (B : Nat) (w : World) (hown : w.ownsRow B 3 1 (.slice oa acc.length oc) acc.length (acc.map (Value.int .i64))) (hB : B ≤ w.heap.size) (hl : acc.length ≤ 1099511627776)  :
    Calls Try.prog 28 #[.agg #[.int .i64 0, .bool false, (.slice oa acc.length oc)], .int .i64 101] w (RetS (some (0, false, acc ++ [259])) B (.slice oa acc.length oc) w) := by
  obtain ⟨i3, hi3, hz3a, hz3b, hz3c⟩ := info_parts info3
  have hn0 := own_ge_ne hown (Nat.le_refl _)
  have hn1 := own_ge_ne hown (Nat.le_add_right _ 1)
  have hn2 := own_ge_ne hown (Nat.le_add_right _ 2)
  go_enter Try.func28, Try.ntmps28
  go_wp2_with (at_builtin; refine wpList_append_own _ rfl _ _ 22 rfl B 3 i3 (.int .i64 0) 1 8 Try.underlying22 hi3 hz3a hz3b hz3c rfl (by decide) _ _ _ rfl (((hown.alloc _).alloc _).alloc _) ⟨w.heap.size + 2, 0, none⟩ 1 1 [.int .i64 259] rfl rfl (cells_new2 _ _ _ (by simp)) (by simp [Value.oneCell']) ?c3 ?c4 ?c5 ?_)
  case c3 => unfold maxLen; omega
  case c4 => omega
  case c5 => simp; omega
  intro v' w4 hown' hgrow _
  have hbx : w4.heap[w.heap.size]? = some (.cells #[.int .i64 0, .bool false, (.slice oa acc.length oc)] 44 (0, 0)) := (hgrow.block _ (by simp; omega) (fun e => hn0 e.symm)).trans ((Below.heap_alloc _ _ _ (by simp; omega)).trans ((Below.heap_alloc _ _ _ (by simp)).trans (World.alloc_heap_new w _)))
  have hrx : w4.heap[w.heap.size + 1]? = some (.cells #[.int .i64 0, .bool false, .slice none 0 0] 44 (0, 0)) := (hgrow.block _ (by simp) (fun e => hn1 e.symm)).trans ((Below.heap_alloc _ _ _ (by simp)).trans (by have := World.alloc_heap_new (w.alloc (.cells #[.int .i64 0, .bool false, (.slice oa acc.length oc)] 44)) (.cells #[.int .i64 0, .bool false, .slice none 0 0] 44); simpa using this))
  have hG := grown_alloc (grown_alloc (grown_alloc hgrow))
  obtain ⟨ga, gc, rfl, _⟩ := own_rd hown'
  have hnb := own_type_ne hown' hbx (by decide)
  have hnr := own_type_ne hown' hrx (by decide)
  obtain ⟨x0, x1, x2, z0, z1, z2⟩ := cells3 hbx
  obtain ⟨y0, y1, y2, q0, q1, q2⟩ := cells3 hrx
  have HO := Lib.hid hown'
  have HG := Lib.hid hG
  clear hgrow hown' hbx hrx hG
  go_wp2
  exact bodyPost_ret (v := .tuple #[.agg #[.int .i64 0, .bool false, .slice ga (acc.length + 1) gc], .bool true]) (by simp [results, Try.results28, go_sem, *]) rfl
    ⟨_, rfl, own_congr (own_setCell (own_setCell (own_setCell (own_setCell HO.out hnb) hnr) hnr) hnr) (by simp) (by simp), grown_setCell (grown_setCell (grown_setCell (grown_setCell HG.out (Nat.le_refl _) _) (Nat.le_add_right _ 1) _) (Nat.le_add_right _ 1) _) (Nat.le_add_right _ 1) _⟩

set_option maxRecDepth 100000 in
set_option maxHeartbeats 2000000 in
theorem read_f4b (oa : Option Addr) (oc : Nat) (acc : List Int) (B : Nat) (w : World) (hown : w.ownsRow B 3 1 (.slice oa acc.length oc) acc.length (acc.map (Value.int .i64))) (hB : B ≤ w.heap.size) (hl : acc.length ≤ 1099511627776)  :
    Calls Try.prog 28 #[.agg #[.int .i64 1, .bool false, (.slice oa acc.length oc)], .int .i64 100] w (RetS (some (1, false, acc ++ [259])) B (.slice oa acc.length oc) w) := by
  obtain ⟨i3, hi3, hz3a, hz3b, hz3c⟩ := info_parts info3
  have hn0 := own_ge_ne hown (Nat.le_refl _)
  have hn1 := own_ge_ne hown (Nat.le_add_right _ 1)
  have hn2 := own_ge_ne hown (Nat.le_add_right _ 2)
  go_enter Try.func28, Try.ntmps28
  go_wp2_with (at_builtin; refine wpList_append_own _ rfl _ _ 22 rfl B 3 i3 (.int .i64 0) 1 8 Try.underlying22 hi3 hz3a hz3b hz3c rfl (by decide) _ _ _ rfl (((hown.alloc _).alloc _).alloc _) ⟨w.heap.size + 2, 0, none⟩ 1 1 [.int .i64 259] rfl rfl (cells_new2 _ _ _ (by simp)) (by simp [Value.oneCell']) ?c3 ?c4 ?c5 ?_)
  case c3 => unfold maxLen; omega
  case c4 => omega
  case c5 => simp; omega
  intro v' w4 hown' hgrow _
  have hbx : w4.heap[w.heap.size]? = some (.cells #[.int .i64 1, .bool false, (.slice oa acc.length oc)] 44 (0, 0)) := (hgrow.block _ (by simp; omega) (fun e => hn0 e.symm)).trans ((Below.heap_alloc _ _ _ (by simp; omega)).trans ((Below.heap_alloc _ _ _ (by simp)).trans (World.alloc_heap_new w _)))
  have hrx : w4.heap[w.heap.size + 1]? = some (.cells #[.int .i64 0, .bool false, .slice none 0 0] 44 (0, 0)) := (hgrow.block _ (by simp) (fun e => hn1 e.symm)).trans ((Below.heap_alloc _ _ _ (by simp)).trans (by have := World.alloc_heap_new (w.alloc (.cells #[.int .i64 1, .bool false, (.slice oa acc.length oc)] 44)) (.cells #[.int .i64 0, .bool false, .slice none 0 0] 44); simpa using this))
  have hG := grown_alloc (grown_alloc (grown_alloc hgrow))
  obtain ⟨ga, gc, rfl, _⟩ := own_rd hown'
  have hnb := own_type_ne hown' hbx (by decide)
  have hnr := own_type_ne hown' hrx (by decide)
  obtain ⟨x0, x1, x2, z0, z1, z2⟩ := cells3 hbx
  obtain ⟨y0, y1, y2, q0, q1, q2⟩ := cells3 hrx
  have HO := Lib.hid hown'
  have HG := Lib.hid hG
  clear hgrow hown' hbx hrx hG
  go_wp2
  exact bodyPost_ret (v := .tuple #[.agg #[.int .i64 1, .bool false, .slice ga (acc.length + 1) gc], .bool true]) (by simp [results, Try.results28, go_sem, *]) rfl
    ⟨_, rfl, own_congr (own_setCell (own_setCell (own_setCell (own_setCell HO.out hnb) hnr) hnr) hnr) (by simp) (by simp), grown_setCell (grown_setCell (grown_setCell (grown_setCell HG.out (Nat.le_refl _) _) (Nat.le_add_right _ 1) _) (Nat.le_add_right _ 1) _) (Nat.le_add_right _ 1) _⟩

set_option maxRecDepth 100000 in
set_option maxHeartbeats 2000000 in
theorem read_98 (set : Int) (oa : Option Addr) (oc : Nat) (acc : List Int) (B : Nat) (w : World) (hown : w.ownsRow B 3 1 (.slice oa acc.length oc) acc.length (acc.map (Value.int .i64))) (hB : B ≤ w.heap.size) (hl : acc.length ≤ 1099511627776) (hs : set ≠ 2) :
    Calls Try.prog 28 #[.agg #[.int .i64 set, .bool false, (.slice oa acc.length oc)], .int .i64 98] w (RetS (some (set, true, acc)) B (.slice oa acc.length oc) w) := by
  have e0 : (set == 2) = false := by simpa using hs
  go_enter Try.func28, Try.ntmps28
  go_wp2
  all_goals exact bodyPost_ret (v := .tuple #[.agg #[.int .i64 set, .bool true, (.slice oa acc.length oc)], .bool true]) (by simp [results, Try.results28, go_sem]) rfl ⟨_, rfl, (hown.alloc _).alloc _, grown_alloc (grown_alloc (grown_refl _ _))⟩

set_option maxRecDepth 100000 in
set_option maxHeartbeats 2000000 in
theorem read_99 (set : Int) (oa : Option Addr) (oc : Nat) (acc : List Int) (B : Nat) (w : World) (hown : w.ownsRow B 3 1 (.slice oa acc.length oc) acc.length (acc.map (Value.int .i64))) (hB : B ≤ w.heap.size) (hl : acc.length ≤ 1099511627776) (hs : set ≠ 2) :
    Calls Try.prog 28 #[.agg #[.int .i64 set, .bool false, (.slice oa acc.length oc)], .int .i64 99] w (RetS (some (2, false, acc)) B (.slice oa acc.length oc) w) := by
  have e0 : (set == 2) = false := by simpa using hs
  go_enter Try.func28, Try.ntmps28
  go_wp2
  all_goals exact bodyPost_ret (v := .tuple #[.agg #[.int .i64 2, .bool false, (.slice oa acc.length oc)], .bool true]) (by simp [results, Try.results28, go_sem]) rfl ⟨_, rfl, (hown.alloc _).alloc _, grown_alloc (grown_alloc (grown_refl _ _))⟩

set_option maxRecDepth 100000 in
set_option maxHeartbeats 2000000 in
theorem read_100 (set : Int) (oa : Option Addr) (oc : Nat) (acc : List Int) (B : Nat) (w : World) (hown : w.ownsRow B 3 1 (.slice oa acc.length oc) acc.length (acc.map (Value.int .i64))) (hB : B ≤ w.heap.size) (hl : acc.length ≤ 1099511627776) (hs : set ≠ 1) (h0 : 0 ≤ set) (h2 : set ≤ 2) :
    Calls Try.prog 28 #[.agg #[.int .i64 set, .bool false, (.slice oa acc.length oc)], .int .i64 100] w (RetS (some (1, false, acc)) B (.slice oa acc.length oc) w) := by
  have e1 : ((100 : Int) == 101 - set) = false := by simp; omega
  go_enter Try.func28, Try.ntmps28
  go_wp2
  all_goals exact bodyPost_ret (v := .tuple #[.agg #[.int .i64 1, .bool false, (.slice oa acc.length oc)], .bool true]) (by simp [results, Try.results28, go_sem]) rfl ⟨_, rfl, (hown.alloc _).alloc _, grown_alloc (grown_alloc (grown_refl _ _))⟩

set_option maxRecDepth 100000 in
set_option maxHeartbeats 2000000 in
theorem read_101 (set : Int) (oa : Option Addr) (oc : Nat) (acc : List Int) (B : Nat) (w : World) (hown : w.ownsRow B 3 1 (.slice oa acc.length oc) acc.length (acc.map (Value.int .i64))) (hB : B ≤ w.heap.size) (hl : acc.length ≤ 1099511627776) (hs : set ≠ 0) (h0 : 0 ≤ set) (h2 : set ≤ 2) :
    Calls Try.prog 28 #[.agg #[.int .i64 set, .bool false, (.slice oa acc.length oc)], .int .i64 101] w (RetS (some (0, false, acc)) B (.slice oa acc.length oc) w) := by
  have e1 : ((101 : Int) == 101 - set) = false := by simp; omega
  go_enter Try.func28, Try.ntmps28
  go_wp2
  all_goals exact bodyPost_ret (v := .tuple #[.agg #[.int .i64 0, .bool false, (.slice oa acc.length oc)], .bool true]) (by simp [results, Try.results28, go_sem]) rfl ⟨_, rfl, (hown.alloc _).alloc _, grown_alloc (grown_alloc (grown_refl _ _))⟩

set_option maxRecDepth 100000 in
set_option maxHeartbeats 2000000 in
theorem read_big (set v : Int) (oa : Option Addr) (oc : Nat) (acc : List Int) (B : Nat) (w : World) (hown : w.ownsRow B 3 1 (.slice oa acc.length oc) acc.length (acc.map (Value.int .i64))) (hB : B ≤ w.heap.size) (hl : acc.length ≤ 1099511627776) (hv : 102 < v) :
    Calls Try.prog 28 #[.agg #[.int .i64 set, .bool false, (.slice oa acc.length oc)], .int .i64 v] w (RetS none B (.slice oa acc.length oc) w) := by
  have f1 : decide (102 < v) = true := by simpa using hv
  go_enter Try.func28, Try.ntmps28
  go_wp2
  all_goals exact bodyPost_ret (v := .tuple #[.agg #[.int .i64 set, .bool false, (.slice oa acc.length oc)], .bool false]) (by simp [results, Try.results28, go_sem]) rfl ⟨_, _, _, _, _, rfl, grown_alloc (grown_alloc (grown_refl _ _))⟩

set_option maxRecDepth 100000 in
set_option maxHeartbeats 2000000 in
theorem read_sbig (set v : Int) (oa : Option Addr) (oc : Nat) (acc : List Int) (B : Nat) (w : World) (hown : w.ownsRow B 3 1 (.slice oa acc.length oc) acc.length (acc.map (Value.int .i64))) (hB : B ≤ w.heap.size) (hl : acc.length ≤ 1099511627776) (hv : 95 < v) :
    Calls Try.prog 28 #[.agg #[.int .i64 set, .bool true, (.slice oa acc.length oc)], .int .i64 v] w (RetS none B (.slice oa acc.length oc) w) := by
  have f1 : decide (95 < v) = true := by simpa using hv
  go_enter Try.func28, Try.ntmps28
  go_wp2
  all_goals exact bodyPost_ret (v := .tuple #[.agg #[.int .i64 set, .bool true, (.slice oa acc.length oc)], .bool false]) (by simp [results, Try.results28, go_sem]) rfl ⟨_, _, _, _, _, rfl, grown_alloc (grown_alloc (grown_refl _ _))⟩

set_option maxRecDepth 100000 in
set_option maxHeartbeats 2000000 in
theorem read_slow (set v : Int) (oa : Option Addr) (oc : Nat) (acc : List Int) (B : Nat) (w : World) (hown : w.ownsRow B 3 1 (.slice oa acc.length oc) acc.length (acc.map (Value.int .i64))) (hB : B ≤ w.heap.size) (hl : acc.length ≤ 1099511627776) (h0 : 0 ≤ set) (h1 : set ≤ 1) (hv0 : 0 ≤ v) (hv1 : v < 64) :
    Calls Try.prog 28 #[.agg #[.int .i64 set, .bool true, (.slice oa acc.length oc)], .int .i64 v] w (RetS (some (set, false, acc ++ [v + 32])) B (.slice oa acc.length oc) w) := by
  obtain ⟨i3, hi3, hz3a, hz3b, hz3c⟩ := info_parts info3
  have f0 : decide (95 < v) = false := by simp; omega
  have f1 : decide (102 < v) = false := by simp; omega
  have f2 : (v == 102) = false := by simp; omega
  have e0 : (1 - set == 2) = false := by simp; omega
  have f4 : decide (v < 64) = true := by simp; omega
  have hn0 := own_ge_ne hown (Nat.le_refl _)
  have hn1 := own_ge_ne hown (Nat.le_add_right _ 1)
  have hn2 := own_ge_ne hown (Nat.le_add_right _ 2)
  go_enter Try.func28, Try.ntmps28
  go_wp2_with (at_builtin; refine wpList_append_own _ rfl _ _ 22 rfl B 3 i3 (.int .i64 0) 1 8 Try.underlying22 hi3 hz3a hz3b hz3c rfl (by decide) _ _ _ rfl (((hown.alloc _).alloc _).alloc _) ⟨w.heap.size + 2, 0, none⟩ 1 1 [.int .i64 (v + 32)] rfl rfl (cells_new2 _ _ _ (by simp)) (by simp [Value.oneCell']) ?c3 ?c4 ?c5 ?_)
  case c3 => unfold maxLen; omega
  case c4 => omega
  case c5 => simp; omega
  intro v' w4 hown' hgrow _
  have hbx : w4.heap[w.heap.size]? = some (.cells #[.int .i64 set, .bool false, (.slice oa acc.length oc)] 44 (0, 0)) := (hgrow.block _ (by simp; omega) (fun e => hn0 e.symm)).trans ((Below.heap_alloc _ _ _ (by simp; omega)).trans ((Below.heap_alloc _ _ _ (by simp)).trans (World.alloc_heap_new w _)))
  have hrx : w4.heap[w.heap.size + 1]? = some (.cells #[.int .i64 0, .bool false, .slice none 0 0] 44 (0, 0)) := (hgrow.block _ (by simp) (fun e => hn1 e.symm)).trans ((Below.heap_alloc _ _ _ (by simp)).trans (by have := World.alloc_heap_new (w.alloc (.cells #[.int .i64 set, .bool false, (.slice oa acc.length oc)] 44)) (.cells #[.int .i64 0, .bool false, .slice none 0 0] 44); simpa using this))
  have hG := grown_alloc (grown_alloc (grown_alloc hgrow))
  obtain ⟨ga, gc, rfl, _⟩ := own_rd hown'
  have hnb := own_type_ne hown' hbx (by decide)
  have hnr := own_type_ne hown' hrx (by decide)
  obtain ⟨x0, x1, x2, z0, z1, z2⟩ := cells3 hbx
  obtain ⟨y0, y1, y2, q0, q1, q2⟩ := cells3 hrx
  have HO := Lib.hid hown'
  have HG := Lib.hid hG
  clear hgrow hown' hbx hrx hG
  go_wp2
  exact bodyPost_ret (v := .tuple #[.agg #[.int .i64 set, .bool false, .slice ga (acc.length + 1) gc], .bool true]) (by simp [results, Try.results28, go_sem, *]) rfl
    ⟨_, rfl, own_congr (own_setCell (own_setCell (own_setCell (own_setCell HO.out hnb) hnr) hnr) hnr) (by simp) (by simp), grown_setCell (grown_setCell (grown_setCell (grown_setCell HG.out (Nat.le_refl _) _) (Nat.le_add_right _ 1) _) (Nat.le_add_right _ 1) _) (Nat.le_add_right _ 1) _⟩

set_option maxRecDepth 100000 in
set_option maxHeartbeats 2000000 in
theorem read_smidA (v : Int) (oa : Option Addr) (oc : Nat) (acc : List Int) (B : Nat) (w : World) (hown : w.ownsRow B 3 1 (.slice oa acc.length oc) acc.length (acc.map (Value.int .i64))) (hB : B ≤ w.heap.size) (hl : acc.length ≤ 1099511627776) (hv0 : 64 ≤ v) (hv1 : v < 96) :
    Calls Try.prog 28 #[.agg #[.int .i64 1, .bool true, (.slice oa acc.length oc)], .int .i64 v] w (RetS (some (1, false, acc ++ [v - 64])) B (.slice oa acc.length oc) w) := by
  obtain ⟨i3, hi3, hz3a, hz3b, hz3c⟩ := info_parts info3
  have f0 : decide (95 < v) = false := by simp; omega
  have f1 : decide (102 < v) = false := by simp; omega
  have f2 : (v == 102) = false := by simp; omega
  have f4 : decide (v < 64) = false := by simp; omega
  have f5 : decide (v < 96) = true := by simp; omega
  have hn0 := own_ge_ne hown (Nat.le_refl _)
  have hn1 := own_ge_ne hown (Nat.le_add_right _ 1)
  have hn2 := own_ge_ne hown (Nat.le_add_right _ 2)
  go_enter Try.func28, Try.ntmps28
  go_wp2_with (at_builtin; refine wpList_append_own _ rfl _ _ 22 rfl B 3 i3 (.int .i64 0) 1 8 Try.underlying22 hi3 hz3a hz3b hz3c rfl (by decide) _ _ _ rfl (((hown.alloc _).alloc _).alloc _) ⟨w.heap.size + 2, 0, none⟩ 1 1 [.int .i64 (v - 64)] rfl rfl (cells_new2 _ _ _ (by simp)) (by simp [Value.oneCell']) ?c3 ?c4 ?c5 ?_)
  case c3 => unfold maxLen; omega
  case c4 => omega
  case c5 => simp; omega
  intro v' w4 hown' hgrow _
  have hbx : w4.heap[w.heap.size]? = some (.cells #[.int .i64 1, .bool false, (.slice oa acc.length oc)] 44 (0, 0)) := (hgrow.block _ (by simp; omega) (fun e => hn0 e.symm)).trans ((Below.heap_alloc _ _ _ (by simp; omega)).trans ((Below.heap_alloc _ _ _ (by simp)).trans (World.alloc_heap_new w _)))
  have hrx : w4.heap[w.heap.size + 1]? = some (.cells #[.int .i64 0, .bool false, .slice none 0 0] 44 (0, 0)) := (hgrow.block _ (by simp) (fun e => hn1 e.symm)).trans ((Below.heap_alloc _ _ _ (by simp)).trans (by have := World.alloc_heap_new (w.alloc (.cells #[.int .i64 1, .bool false, (.slice oa acc.length oc)] 44)) (.cells #[.int .i64 0, .bool false, .slice none 0 0] 44); simpa using this))
  have hG := grown_alloc (grown_alloc (grown_alloc hgrow))
  obtain ⟨ga, gc, rfl, _⟩ := own_rd hown'
  have hnb := own_type_ne hown' hbx (by decide)
  have hnr := own_type_ne hown' hrx (by decide)
  obtain ⟨x0, x1, x2, z0, z1, z2⟩ := cells3 hbx
  obtain ⟨y0, y1, y2, q0, q1, q2⟩ := cells3 hrx
  have HO := Lib.hid hown'
  have HG := Lib.hid hG
  clear hgrow hown' hbx hrx hG
  go_wp2
  exact bodyPost_ret (v := .tuple #[.agg #[.int .i64 1, .bool false, .slice ga (acc.length + 1) gc], .bool true]) (by simp [results, Try.results28, go_sem, *]) rfl
    ⟨_, rfl, own_congr (own_setCell (own_setCell (own_setCell (own_setCell HO.out hnb) hnr) hnr) hnr) (by simp) (by simp), grown_setCell (grown_setCell (grown_setCell (grown_setCell HG.out (Nat.le_refl _) _) (Nat.le_add_right _ 1) _) (Nat.le_add_right _ 1) _) (Nat.le_add_right _ 1) _⟩

set_option maxRecDepth 100000 in
set_option maxHeartbeats 2000000 in
theorem read_smidB (v : Int) (oa : Option Addr) (oc : Nat) (acc : List Int) (B : Nat) (w : World) (hown : w.ownsRow B 3 1 (.slice oa acc.length oc) acc.length (acc.map (Value.int .i64))) (hB : B ≤ w.heap.size) (hl : acc.length ≤ 1099511627776) (hv0 : 64 ≤ v) (hv1 : v < 96) :
    Calls Try.prog 28 #[.agg #[.int .i64 0, .bool true, (.slice oa acc.length oc)], .int .i64 v] w (RetS (some (0, false, acc ++ [v + 32])) B (.slice oa acc.length oc) w) := by
  obtain ⟨i3, hi3, hz3a, hz3b, hz3c⟩ := info_parts info3
  have f0 : decide (95 < v) = false := by simp; omega
  have f1 : decide (102 < v) = false := by simp; omega
  have f2 : (v == 102) = false := by simp; omega
  have f4 : decide (v < 64) = false := by simp; omega
  have f5 : decide (v < 96) = true := by simp; omega
  have hn0 := own_ge_ne hown (Nat.le_refl _)
  have hn1 := own_ge_ne hown (Nat.le_add_right _ 1)
  have hn2 := own_ge_ne hown (Nat.le_add_right _ 2)
  go_enter Try.func28, Try.ntmps28
  go_wp2_with (at_builtin; refine wpList_append_own _ rfl _ _ 22 rfl B 3 i3 (.int .i64 0) 1 8 Try.underlying22 hi3 hz3a hz3b hz3c rfl (by decide) _ _ _ rfl (((hown.alloc _).alloc _).alloc _) ⟨w.heap.size + 2, 0, none⟩ 1 1 [.int .i64 (v + 32)] rfl rfl (cells_new2 _ _ _ (by simp)) (by simp [Value.oneCell']) ?c3 ?c4 ?c5 ?_)
  case c3 => unfold maxLen; omega
  case c4 => omega
  case c5 => simp; omega
  intro v' w4 hown' hgrow _
  have hbx : w4.heap[w.heap.size]? = some (.cells #[.int .i64 0, .bool false, (.slice oa acc.length oc)] 44 (0, 0)) := (hgrow.block _ (by simp; omega) (fun e => hn0 e.symm)).trans ((Below.heap_alloc _ _ _ (by simp; omega)).trans ((Below.heap_alloc _ _ _ (by simp)).trans (World.alloc_heap_new w _)))
  have hrx : w4.heap[w.heap.size + 1]? = some (.cells #[.int .i64 0, .bool false, .slice none 0 0] 44 (0, 0)) := (hgrow.block _ (by simp) (fun e => hn1 e.symm)).trans ((Below.heap_alloc _ _ _ (by simp)).trans (by have := World.alloc_heap_new (w.alloc (.cells #[.int .i64 0, .bool false, (.slice oa acc.length oc)] 44)) (.cells #[.int .i64 0, .bool false, .slice none 0 0] 44); simpa using this))
  have hG := grown_alloc (grown_alloc (grown_alloc hgrow))
  obtain ⟨ga, gc, rfl, _⟩ := own_rd hown'
  have hnb := own_type_ne hown' hbx (by decide)
  have hnr := own_type_ne hown' hrx (by decide)
  obtain ⟨x0, x1, x2, z0, z1, z2⟩ := cells3 hbx
  obtain ⟨y0, y1, y2, q0, q1, q2⟩ := cells3 hrx
  have HO := Lib.hid hown'
  have HG := Lib.hid hG
  clear hgrow hown' hbx hrx hG
  go_wp2
  exact bodyPost_ret (v := .tuple #[.agg #[.int .i64 0, .bool false, .slice ga (acc.length + 1) gc], .bool true]) (by simp [results, Try.results28, go_sem, *]) rfl
    ⟨_, rfl, own_congr (own_setCell (own_setCell (own_setCell (own_setCell HO.out hnb) hnr) hnr) hnr) (by simp) (by simp), grown_setCell (grown_setCell (grown_setCell (grown_setCell HG.out (Nat.le_refl _) _) (Nat.le_add_right _ 1) _) (Nat.le_add_right _ 1) _) (Nat.le_add_right _ 1) _⟩

theorem read_any (set v : Int) (sh : Bool) (ov : Value) (acc : List Int) (B : Nat) (w : World) (hown : w.ownsRow B 3 1 ov acc.length (acc.map (Value.int .i64))) (hB : B ≤ w.heap.size) (hl : acc.length ≤ 1099511627776)
    (h0 : 0 ≤ set) (h2 : set ≤ 2) (hsh : sh = true → set ≤ 1) (hv0 : 0 ≤ v) (hv1 : v ≤ 106) :
    Calls Try.prog 28 #[.agg #[.int .i64 set, .bool sh, ov], .int .i64 v] w (RetS (readF set sh acc v) B ov w) := by
  obtain ⟨oa, oc, rfl, _⟩ := own_rd hown
  cases sh with
  | true =>
    have h1 := hsh rfl
    unfold readF
    rw [if_pos rfl]
    by_cases c1 : 95 < v
    · rw [if_pos c1]; exact read_sbig set v oa oc acc B w hown hB hl c1
    rw [if_neg c1]
    by_cases c2 : v < 64
    · rw [if_pos c2]; exact read_slow set v oa oc acc B w hown hB hl h0 h1 hv0 c2
    rw [if_neg c2]
    by_cases c3 : 1 - set = 0
    · rw [if_pos c3]
      obtain rfl : set = 1 := by omega
      exact read_smidA v oa oc acc B w hown hB hl (by omega) (by omega)
    · rw [if_neg c3]
      obtain rfl : set = 0 := by omega
      exact read_smidB v oa oc acc B w hown hB hl (by omega) (by omega)
  | false =>
    unfold readF
    rw [if_neg (by simp)]
    by_cases c1 : 102 < v
    · rw [if_pos c1]; exact read_big set v oa oc acc B w hown hB hl c1
    rw [if_neg c1]
    by_cases c2 : v = 102
    · rw [if_pos c2]; subst c2; exact read_102 set oa oc acc B w hown hB hl
    rw [if_neg c2]
    by_cases c3 : set = 2 ∧ v ≤ 99
    · rw [if_pos c3]
      obtain ⟨rfl, c3⟩ := c3
      exact read_pair v oa oc acc B w hown hB hl hv0 c3
    rw [if_neg c3]
    by_cases c4 : v < 64
    · rw [if_pos c4]; exact read_low set v oa oc acc B w hown hB hl (by omega) hv0 c4
    rw [if_neg c4]
    by_cases c5 : v < 96 ∧ set = 0
    · rw [if_pos c5]
      obtain ⟨c5, rfl⟩ := c5
      exact read_midA v oa oc acc B w hown hB hl (by omega) c5
    rw [if_neg c5]
    by_cases c6 : v < 96
    · rw [if_pos c6]
      obtain rfl : set = 1 := by omega
      exact read_midB v oa oc acc B w hown hB hl (by omega) c6
    rw [if_neg c6]
    by_cases c7 : v = 96
    · rw [if_pos c7]; subst c7; exact read_96 set oa oc acc B w hown hB hl (by omega)
    rw [if_neg c7]
    by_cases c8 : v = 97
    · rw [if_pos c8]; subst c8; exact read_97 set oa oc acc B w hown hB hl (by omega)
    rw [if_neg c8]
    by_cases c9 : v = 98
    · rw [if_pos c9]; subst c9; exact read_98 set oa oc acc B w hown hB hl (by omega)
    rw [if_neg c9]
    by_cases c10 : v = 99
    · rw [if_pos c10]; subst c10; exact read_99 set oa oc acc B w hown hB hl (by omega)
    rw [if_neg c10]
    by_cases c11 : v = 101 - set ∧ set < 2
    · rw [if_pos c11]
      have : (set = 0 ∧ v = 101) ∨ (set = 1 ∧ v = 100) := by omega
      rcases this with ⟨rfl, rfl⟩ | ⟨rfl, rfl⟩
      · exact read_f4a oa oc acc B w hown hB hl
      · exact read_f4b oa oc acc B w hown hB hl
    · rw [if_neg c11]
      have : v = 100 ∨ v = 101 := by omega
      rcases this with rfl | rfl
      · exact read_100 set oa oc acc B w hown hB hl (by omega) h0 h2
      · exact read_101 set oa oc acc B w hown hB hl (by omega) h0 h2

end Go.Proofs.Ytofedeokliljkaa
