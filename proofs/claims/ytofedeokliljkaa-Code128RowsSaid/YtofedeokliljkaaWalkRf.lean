/-
  The walk of 'choice' of the reference of package code128, in the third code set. Condition: the numbers are small.
-/
import Derived.Test.YtofedeokliljkaaWalkRd
namespace Go.Proofs.Ytofedeokliljkaa
open Go.RowKit

set_option maxRecDepth 100000 in
set_option maxHeartbeats 4000000 in
theorem choice_2 (a : Option Addr) (n cap k g m rc : Nat) (cs : List Int) (u0 u1 u2 a0 a1 a2 : Int) (w : World) (h : RdI w a n cs) (hk : k < n) (hn : n ≤ 1099511627776) (hm : k < m) (hm2 : m ≤ 1099511627776) (hr : RowCells w g (k * 6) ⟨u0, u1, u2, a0, a1, a2⟩)
  (b0 : 0 ≤ u0) (b0' : u0 ≤ 2199023255552) (b1 : 0 ≤ u1) (b1' : u1 ≤ 2199023255552) (hp : u2 = a2 → cs.getD k 0 ≠ 256 → k + 1 < n) (hc0 : 0 ≤ cs.getD k 0) (hc1 : cs.getD k 0 ≤ 1000) (hc2 : 0 ≤ cs.getD (k + 1) 0) (hc3 : cs.getD (k + 1) 0 ≤ 1000) :
    Calls Try.prog 41 #[.slice a n cap, .int .i64 k, .int .i64 2, .slice (some ⟨g, 0, none⟩) m rc] w fun e w' => e = .returned (.int .i64 (choiceF cs k 2 ⟨u0, u1, u2, a0, a1, a2⟩)) ∧ Below w.heap.size w w' := by
  obtain ⟨c0, c1, c2, c3, c4, c5⟩ := hr
  simp only at c0 c1 c2 c3 c4 c5
  obtain ⟨b, off, c, rfl, hcell, hd⟩ := h.at k hk
  have hcg : cs.getD k 0 = c := by rw [List.getD_eq_getElem?_getD, getElem?_of_drop hd]; rfl
  have hk0 : (0 : Int) ≤ (k : Int) := by omega
  have hkm : (k : Int) < (m : Int) := by omega
  rw [hcg] at hp hc0 hc1
  have HCG := Lib.hid hcg
  clear hcg hd
  by_cases hq : u2 = a2 ∧ c ≠ 256
  · obtain ⟨rfl, hq2⟩ := hq
    have hk1 := hp rfl hq2
    obtain ⟨b', off', x, e2, hcl2, hd2⟩ := h.at (k + 1) hk1
    cases e2
    have hcg2 : cs.getD (k + 1) 0 = x := by rw [List.getD_eq_getElem?_getD, getElem?_of_drop hd2]; rfl
    rw [hcg2] at hc2 hc3
    have HCG2 := Lib.hid hcg2
    have hce : (c == 256) = false := beq_eq_false_iff_ne.2 hq2
    have hne : (u2 == u2) = true := by simp
    have hk1i : (k : Int) + 1 < (n : Int) := by omega
    have hk10 : (0 : Int) ≤ (k : Int) + 1 := by omega
    clear hcg2 hd2 hp h
    go_enter Try.func41, Try.ntmps41
    go_wp2_with fail
    go_quiet (fail)
    go_wp2_with fail
    go_quiet (fail)
    go_wp2_with fail
    refine wp_loop_rounds 4 ?_
    all_goals
      rw [rounds_succ]
      go_wp2_with fail
      go_quiet (fail)
      go_wp2_with fail
    all_goals
      rw [rounds_succ]
      go_wp2_with fail
      go_quiet (fail)
      go_wp2_with fail
    all_goals
      rw [rounds_succ]
      go_wp2_with fail
      go_quiet (fail)
      go_wp2_with fail
    all_goals
      rw [rounds_succ]
      go_wp2_with fail
    all_goals
      go_ret
      refine ⟨ret_int ?_, by repeat first | exact Below.refl _ _ | refine below_drewN ?_ _⟩
      unfold choiceF minT ch0
      simp only [HCG.out, HCG2.out, show ¬ ((2 : Int) = 0) by omega, show ¬ ((2 : Int) = 1) by omega, if_true, if_false, false_and, true_and]
      simp only [beq_iff_eq, beq_eq_false_iff_ne, ne_eq, Bool.not_eq_true] at *
      (repeat' split) <;> omega
  · have hq3 : u2 = a2 → c = 256 := fun e => by
      by_cases hz : c = 256
      · exact hz
      · exact absurd ⟨e, hz⟩ hq
    clear hp hq
    by_cases hu : u2 = a2
    · subst hu
      have hz := hq3 rfl
      subst hz
      clear hq3
      go_enter Try.func41, Try.ntmps41
      go_wp2_with fail
      go_quiet (fail)
      go_wp2_with fail
      refine wp_loop_rounds 4 ?_
      all_goals
        rw [rounds_succ]
        go_wp2_with fail
        go_quiet (fail)
        go_wp2_with fail
      all_goals
        rw [rounds_succ]
        go_wp2_with fail
        go_quiet (fail)
        go_wp2_with fail
      all_goals
        rw [rounds_succ]
        go_wp2_with fail
        go_quiet (fail)
        go_wp2_with fail
      all_goals
        rw [rounds_succ]
        go_wp2_with fail
      all_goals
        go_ret
        refine ⟨ret_int ?_, by repeat first | exact Below.refl _ _ | refine below_drewN ?_ _⟩
        unfold choiceF minT ch0
        simp only [HCG.out, show ¬ ((2 : Int) = 0) by omega, show ¬ ((2 : Int) = 1) by omega, if_true, if_false, false_and, true_and]
        simp only [beq_iff_eq, beq_eq_false_iff_ne, ne_eq, Bool.not_eq_true] at *
        (repeat' split) <;> omega
    · have hne : (u2 == a2) = false := beq_eq_false_iff_ne.2 hu
      clear hq3
      go_enter Try.func41, Try.ntmps41
      go_wp2_with fail
      go_quiet (fail)
      go_wp2_with fail
      refine wp_loop_rounds 4 ?_
      all_goals
        rw [rounds_succ]
        go_wp2_with fail
        go_quiet (fail)
        go_wp2_with fail
      all_goals
        rw [rounds_succ]
        go_wp2_with fail
        go_quiet (fail)
        go_wp2_with fail
      all_goals
        rw [rounds_succ]
        go_wp2_with fail
        go_quiet (fail)
        go_wp2_with fail
      all_goals
        rw [rounds_succ]
        go_wp2_with fail
      all_goals
        go_ret
        refine ⟨ret_int ?_, by repeat first | exact Below.refl _ _ | refine below_drewN ?_ _⟩
        unfold choiceF minT ch0
        simp only [HCG.out, show ¬ ((2 : Int) = 0) by omega, show ¬ ((2 : Int) = 1) by omega, if_true, if_false, false_and, true_and]
        simp only [beq_iff_eq, beq_eq_false_iff_ne, ne_eq, Bool.not_eq_true] at *
        (repeat' split) <;> omega

end Go.Proofs.Ytofedeokliljkaa
