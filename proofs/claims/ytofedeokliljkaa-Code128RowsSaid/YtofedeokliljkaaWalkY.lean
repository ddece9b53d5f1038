/-
  The walk of used of the reference of package code128. Condition: the numbers are small.
-/
import Derived.Test.YtofedeokliljkaaWalkU
namespace Go.Proofs.Ytofedeokliljkaa
open Go.RowKit
set_option linter.unusedVariables false

/-- What 'used' computes: n3, n4, n5 the row of the next index, m5 that of the one after. -/
def usedF (cs : List Int) (k : Nat) (st n3 n4 n5 m5 : Int) : Int :=
  let c := cs.getD k 0
  if st = 2 then (if c = 256 then 1 + n5 else if k + 1 < cs.length ∧ digB c = true ∧ digB (cs.getD (k + 1) 0) = true then 1 + m5 else 1099511627776)
  else (if 0 ≤ dataF c st then 1 else 2) + (if st = 0 then n3 else n4)

set_option maxHeartbeats 800000 in
theorem refDigit_any (c : Int) (w : World) : Calls Try.prog 51 #[.int .i64 c] w fun e w' => e = .returned (.bool (digB c)) ∧ w = w' := by
  go_enter Try.func51, Try.ntmps51
  go_wp2
  all_goals
    go_ret
    refine ⟨?_, rfl⟩
    unfold digB
    repeat' split
    all_goals first | rfl | (exfalso; simp_all; try omega) | (simp_all; try omega)

set_option maxRecDepth 100000 in
set_option maxHeartbeats 2000000 in
theorem used_0 (a : Option Addr) (n cap k : Nat) (cs : List Int) (n0 n1 n2 n3 n4 n5 m0 m1 m2 m3 m4 m5 : Int) (w : World) (h : RdI w a n cs) (hk : k < n) (hn : n ≤ 1099511627776) (h3 : 0 ≤ n3) (h3b : n3 ≤ 2199023255552) :
    Calls Try.prog 49 #[.slice a n cap, .int .i64 k, .int .i64 0, .agg #[.int .i64 n0, .int .i64 n1, .int .i64 n2, .int .i64 n3, .int .i64 n4, .int .i64 n5], .agg #[.int .i64 m0, .int .i64 m1, .int .i64 m2, .int .i64 m3, .int .i64 m4, .int .i64 m5]] w fun e w' => e = .returned (.int .i64 (usedF cs k 0 n3 n4 n5 m5)) ∧ Below w.heap.size w w' := by
  obtain ⟨b, off, c, rfl, hcell, hd⟩ := h.at k hk
  have hcg : cs.getD k 0 = c := by rw [List.getD_eq_getElem?_getD, getElem?_of_drop hd]; rfl
  have hB : Below w.heap.size w ((w.alloc (.cells #[.int .i64 n0, .int .i64 n1, .int .i64 n2, .int .i64 n3, .int .i64 n4, .int .i64 n5] 67)).alloc (.cells #[.int .i64 m0, .int .i64 m1, .int .i64 m2, .int .i64 m3, .int .i64 m4, .int .i64 m5] 67)) := ((Below.refl _ w).alloc (Nat.le_refl _) _).alloc (by simp) _
  have hcell2 : ((w.alloc (.cells #[.int .i64 n0, .int .i64 n1, .int .i64 n2, .int .i64 n3, .int .i64 n4, .int .i64 n5] 67)).alloc (.cells #[.int .i64 m0, .int .i64 m1, .int .i64 m2, .int .i64 m3, .int .i64 m4, .int .i64 m5] 67)).cell? ⟨b, off + k, none⟩ = some (.int .i64 c) := (hB.cell (p := ⟨b, off + k, none⟩) (lt_of_cell hcell)).trans hcell
  have hu : usedF cs k 0 n3 n4 n5 m5 = (if 0 ≤ dataF c 0 then 1 else 2) + n3 := by unfold usedF; simp only [hcg]; simp
  have HU := Lib.hid hu
  clear hu hcg hd
  have hdt := fun W => data_any c 0 W (by omega) (by omega)
  have HD := Lib.hid hdt; clear hdt
  generalize dataF c 0 = d at *
  by_cases h0 : 0 ≤ d
  · have hdd : decide (0 ≤ d) = true := by simpa using h0
    go_enter Try.func49, Try.ntmps49
    go_wp2_with fail
    refine (HD.out _).mono ?_
    rintro e w' ⟨rfl, rfl⟩
    go_wp2
    go_ret
    exact ⟨ret_int (by rw [HU.out, if_pos h0]), hB⟩
  · have hdd : decide (0 ≤ d) = false := by simpa using h0
    go_enter Try.func49, Try.ntmps49
    go_wp2_with fail
    refine (HD.out _).mono ?_
    rintro e w' ⟨rfl, rfl⟩
    go_wp2
    go_ret
    exact ⟨ret_int (by rw [HU.out, if_neg (by omega)]), hB⟩

set_option maxRecDepth 100000 in
set_option maxHeartbeats 2000000 in
theorem used_1 (a : Option Addr) (n cap k : Nat) (cs : List Int) (n0 n1 n2 n3 n4 n5 m0 m1 m2 m3 m4 m5 : Int) (w : World) (h : RdI w a n cs) (hk : k < n) (hn : n ≤ 1099511627776) (h3 : 0 ≤ n4) (h3b : n4 ≤ 2199023255552) :
    Calls Try.prog 49 #[.slice a n cap, .int .i64 k, .int .i64 1, .agg #[.int .i64 n0, .int .i64 n1, .int .i64 n2, .int .i64 n3, .int .i64 n4, .int .i64 n5], .agg #[.int .i64 m0, .int .i64 m1, .int .i64 m2, .int .i64 m3, .int .i64 m4, .int .i64 m5]] w fun e w' => e = .returned (.int .i64 (usedF cs k 1 n3 n4 n5 m5)) ∧ Below w.heap.size w w' := by
  obtain ⟨b, off, c, rfl, hcell, hd⟩ := h.at k hk
  have hcg : cs.getD k 0 = c := by rw [List.getD_eq_getElem?_getD, getElem?_of_drop hd]; rfl
  have hB : Below w.heap.size w ((w.alloc (.cells #[.int .i64 n0, .int .i64 n1, .int .i64 n2, .int .i64 n3, .int .i64 n4, .int .i64 n5] 67)).alloc (.cells #[.int .i64 m0, .int .i64 m1, .int .i64 m2, .int .i64 m3, .int .i64 m4, .int .i64 m5] 67)) := ((Below.refl _ w).alloc (Nat.le_refl _) _).alloc (by simp) _
  have hcell2 : ((w.alloc (.cells #[.int .i64 n0, .int .i64 n1, .int .i64 n2, .int .i64 n3, .int .i64 n4, .int .i64 n5] 67)).alloc (.cells #[.int .i64 m0, .int .i64 m1, .int .i64 m2, .int .i64 m3, .int .i64 m4, .int .i64 m5] 67)).cell? ⟨b, off + k, none⟩ = some (.int .i64 c) := (hB.cell (p := ⟨b, off + k, none⟩) (lt_of_cell hcell)).trans hcell
  have hu : usedF cs k 1 n3 n4 n5 m5 = (if 0 ≤ dataF c 1 then 1 else 2) + n4 := by unfold usedF; simp only [hcg]; simp
  have HU := Lib.hid hu
  clear hu hcg hd
  have hdt := fun W => data_any c 1 W (by omega) (by omega)
  have HD := Lib.hid hdt; clear hdt
  generalize dataF c 1 = d at *
  by_cases h0 : 0 ≤ d
  · have hdd : decide (0 ≤ d) = true := by simpa using h0
    go_enter Try.func49, Try.ntmps49
    go_wp2_with fail
    refine (HD.out _).mono ?_
    rintro e w' ⟨rfl, rfl⟩
    go_wp2
    go_ret
    exact ⟨ret_int (by rw [HU.out, if_pos h0]), hB⟩
  · have hdd : decide (0 ≤ d) = false := by simpa using h0
    go_enter Try.func49, Try.ntmps49
    go_wp2_with fail
    refine (HD.out _).mono ?_
    rintro e w' ⟨rfl, rfl⟩
    go_wp2
    go_ret
    exact ⟨ret_int (by rw [HU.out, if_neg (by omega)]), hB⟩

set_option maxRecDepth 100000 in
set_option maxHeartbeats 2000000 in
theorem used_2 (a : Option Addr) (n cap k : Nat) (cs : List Int) (n0 n1 n2 n3 n4 n5 m0 m1 m2 m3 m4 m5 : Int) (w : World) (h : RdI w a n cs) (hk : k < n) (hn : n ≤ 1099511627776) (h3 : 0 ≤ n5) (h3b : n5 ≤ 2199023255552) (h4 : 0 ≤ m5) (h4b : m5 ≤ 2199023255552) :
    Calls Try.prog 49 #[.slice a n cap, .int .i64 k, .int .i64 2, .agg #[.int .i64 n0, .int .i64 n1, .int .i64 n2, .int .i64 n3, .int .i64 n4, .int .i64 n5], .agg #[.int .i64 m0, .int .i64 m1, .int .i64 m2, .int .i64 m3, .int .i64 m4, .int .i64 m5]] w fun e w' => e = .returned (.int .i64 (usedF cs k 2 n3 n4 n5 m5)) ∧ Below w.heap.size w w' := by
  obtain ⟨b, off, c, rfl, hcell, hd⟩ := h.at k hk
  have hcg : cs.getD k 0 = c := by rw [List.getD_eq_getElem?_getD, getElem?_of_drop hd]; rfl
  have hB : Below w.heap.size w ((w.alloc (.cells #[.int .i64 n0, .int .i64 n1, .int .i64 n2, .int .i64 n3, .int .i64 n4, .int .i64 n5] 67)).alloc (.cells #[.int .i64 m0, .int .i64 m1, .int .i64 m2, .int .i64 m3, .int .i64 m4, .int .i64 m5] 67)) := ((Below.refl _ w).alloc (Nat.le_refl _) _).alloc (by simp) _
  have hcell2 : ((w.alloc (.cells #[.int .i64 n0, .int .i64 n1, .int .i64 n2, .int .i64 n3, .int .i64 n4, .int .i64 n5] 67)).alloc (.cells #[.int .i64 m0, .int .i64 m1, .int .i64 m2, .int .i64 m3, .int .i64 m4, .int .i64 m5] 67)).cell? ⟨b, off + k, none⟩ = some (.int .i64 c) := (hB.cell (p := ⟨b, off + k, none⟩) (lt_of_cell hcell)).trans hcell
  have hu : usedF cs k 2 n3 n4 n5 m5 = if c = 256 then 1 + n5 else if k + 1 < cs.length ∧ digB c = true ∧ digB (cs.getD (k + 1) 0) = true then 1 + m5 else 1099511627776 := by unfold usedF; simp only [hcg]; simp
  rw [h.length] at hu
  by_cases h256 : c = 256
  · rw [if_pos h256] at hu
    have HU := Lib.hid hu
    subst h256
    clear hu hcg hd h
    go_enter Try.func49, Try.ntmps49
    go_wp2
    go_ret
    exact ⟨ret_int (by rw [HU.out]), hB⟩
  rw [if_neg h256] at hu
  have hce : (c == 256) = false := beq_eq_false_iff_ne.2 h256
  by_cases hk1 : k + 1 < n
  · obtain ⟨b', off', c2, e2, hcl2, hd2⟩ := h.at (k + 1) hk1
    cases e2
    have hcg2 : cs.getD (k + 1) 0 = c2 := by rw [List.getD_eq_getElem?_getD, getElem?_of_drop hd2]; rfl
    rw [hcg2] at hu
    have hcl3 : ((w.alloc (.cells #[.int .i64 n0, .int .i64 n1, .int .i64 n2, .int .i64 n3, .int .i64 n4, .int .i64 n5] 67)).alloc (.cells #[.int .i64 m0, .int .i64 m1, .int .i64 m2, .int .i64 m3, .int .i64 m4, .int .i64 m5] 67)).cell? ⟨b, off + (k + 1), none⟩ = some (.int .i64 c2) := (hB.cell (p := ⟨b, off + (k + 1), none⟩) (lt_of_cell hcl2)).trans hcl2
    have hg1 : decide ((k : Int) + 1 < (n : Int)) = true := by simp; omega
    have HU := Lib.hid hu
    clear hu hcg hd hcg2 hd2 h h256
    cases hdc : digB c with
    | false =>
      have hdig := fun W => refDigit_any c W
      rw [hdc] at hdig
      have HDG := Lib.hid hdig
      have HX : Hid (digB c = false) := hdc
      clear hdig hdc
      go_enter Try.func49, Try.ntmps49
      go_wp2_with fail
      refine (HDG.out _).mono ?_
      rintro e w' ⟨rfl, rfl⟩
      go_wp2
      go_ret
      exact ⟨ret_int (by rw [HU.out, if_neg (by rw [HX.out]; simp)]), hB⟩
    | true =>
      have hdig := fun W => refDigit_any c W
      rw [hdc] at hdig
      have HDG := Lib.hid hdig
      have HX : Hid (digB c = true) := hdc
      clear hdig hdc
      cases hdc2 : digB c2 with
      | false =>
        have hdig := fun W => refDigit_any c2 W
        rw [hdc2] at hdig
        have HDG2 := Lib.hid hdig
        have HX2 : Hid (digB c2 = false) := hdc2
        clear hdig hdc2
        go_enter Try.func49, Try.ntmps49
        go_wp2_with fail
        refine (HDG.out _).mono ?_
        rintro e w' ⟨rfl, rfl⟩
        go_wp2_with fail
        refine (HDG2.out _).mono ?_
        rintro e w' ⟨rfl, rfl⟩
        go_wp2
        go_ret
        exact ⟨ret_int (by rw [HU.out, if_neg (by rw [HX2.out]; simp)]), hB⟩
      | true =>
        have hdig := fun W => refDigit_any c2 W
        rw [hdc2] at hdig
        have HDG2 := Lib.hid hdig
        have HX2 : Hid (digB c2 = true) := hdc2
        clear hdig hdc2
        go_enter Try.func49, Try.ntmps49
        go_wp2_with fail
        refine (HDG.out _).mono ?_
        rintro e w' ⟨rfl, rfl⟩
        go_wp2_with fail
        refine (HDG2.out _).mono ?_
        rintro e w' ⟨rfl, rfl⟩
        go_wp2
        go_ret
        exact ⟨ret_int (by rw [HU.out, if_pos ⟨hk1, HX.out, HX2.out⟩]), hB⟩
  · rw [if_neg (by omega)] at hu
    have hg1 : decide ((k : Int) + 1 < (n : Int)) = false := by simp; omega
    have HU := Lib.hid hu
    clear hu hcg hd h h256
    go_enter Try.func49, Try.ntmps49
    go_wp2
    go_ret
    exact ⟨ret_int (by rw [HU.out]), hB⟩

end Go.Proofs.Ytofedeokliljkaa
