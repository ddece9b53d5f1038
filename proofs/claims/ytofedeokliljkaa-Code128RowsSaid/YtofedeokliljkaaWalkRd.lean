import Derived.Test.YtofedeokliljkaaPlainN
import Derived.Test.YtofedeokliljkaaWalkY
namespace Go.Proofs.Ytofedeokliljkaa
open Go.RowKit

structure RowCells (w : World) (g k : Nat) (r : R6) : Prop where
  c0 : w.cell? ⟨g, k, none⟩ = some (.int .i64 r.u0)
  c1 : w.cell? ⟨g, k + 1, none⟩ = some (.int .i64 r.u1)
  c2 : w.cell? ⟨g, k + 2, none⟩ = some (.int .i64 r.u2)
  c3 : w.cell? ⟨g, k + 3, none⟩ = some (.int .i64 r.a0)
  c4 : w.cell? ⟨g, k + 3 + 1, none⟩ = some (.int .i64 r.a1)
  c5 : w.cell? ⟨g, k + 3 + 2, none⟩ = some (.int .i64 r.a2)

set_option maxRecDepth 100000 in
set_option maxHeartbeats 4000000 in
theorem choice_0 (a : Option Addr) (n cap k g m rc : Nat) (cs : List Int) (u0 u1 u2 a0 a1 a2 : Int) (w : World) (h : RdI w a n cs) (hk : k < n) (hn : n ≤ 1099511627776) (hm : k < m) (hm2 : m ≤ 1099511627776) (hr : RowCells w g (k * 6) ⟨u0, u1, u2, a0, a1, a2⟩)
  (b1 : 0 ≤ u1) (b1' : u1 ≤ 2199023255552) (b2 : 0 ≤ u2) (b2' : u2 ≤ 2199023255552) :
    Calls Try.prog 41 #[.slice a n cap, .int .i64 k, .int .i64 0, .slice (some ⟨g, 0, none⟩) m rc] w fun e w' => e = .returned (.int .i64 (choiceF cs k 0 ⟨u0, u1, u2, a0, a1, a2⟩)) ∧ Below w.heap.size w w' := by
  obtain ⟨c0, c1, c2, c3, c4, c5⟩ := hr
  simp only at c0 c1 c2 c3 c4 c5
  obtain ⟨b, off, c, rfl, hcell, hd⟩ := h.at k hk
  have hcg : cs.getD k 0 = c := by rw [List.getD_eq_getElem?_getD, getElem?_of_drop hd]; rfl
  have hk0 : (0 : Int) ≤ (k : Int) := by omega
  have hkm : (k : Int) < (m : Int) := by omega
  have hdt := fun W => data_any c 0 W (by omega) (by omega)
  have HD := Lib.hid hdt; clear hdt
  obtain ⟨d, hdd⟩ : ∃ d, dataF c 0 = d := ⟨_, rfl⟩
  rw [hdd] at HD
  have HDD := Lib.hid hdd; clear hdd
  have HCG := Lib.hid hcg
  clear hcg hd
  go_enter Try.func41, Try.ntmps41
  go_wp2_with fail
  go_quiet (fail)
  go_wp2_with (go_at_call 42; refine (HD.out _).mono ?_; rintro e w' ⟨rfl, rfl⟩)
  all_goals
    refine wp_loop_rounds 4 ?_
    rw [rounds_succ]
    go_wp2_with fail
    go_quiet (fail)
    go_wp2_with fail
  all_goals
    rw [rounds_succ]
    go_wp2_with fail
    go_quiet (fail)
    go_wp2_with fail
  all_goals
    rw [rounds_succ]
    go_wp2_with fail
    go_quiet (fail)
    go_wp2_with fail
  all_goals
    rw [rounds_succ]
    go_wp2_with fail
  all_goals
    go_ret
    refine ⟨ret_int ?_, by repeat first | exact Below.refl _ _ | refine below_drewN ?_ _⟩
    unfold choiceF minT ch0
    simp only [HCG.out, HDD.out, show ¬ ((0 : Int) = 2) by omega, if_true, if_false, false_and]
    simp only [beq_iff_eq, beq_eq_false_iff_ne, ne_eq, Bool.not_eq_true] at *
    (repeat' split) <;> omega

end Go.Proofs.Ytofedeokliljkaa
