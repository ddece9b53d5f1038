/-
  The walks of the statements RunsModules, RunsWidths and RunsScales: each returns true. No condition.
-/
import Derived.Test.YtcihombiijjndaaWalkD
import Derived.Test.YtcihombiijjndaaWalkK
namespace Go.Proofs.Ytcihombiijjndaa
open Go.RowKit

theorem fewF_len : ∀ (zs : List Int) (i : Nat), fewF i zs = true → i + zs.length ≤ 60 ∨ zs = []
  | [], _, _ => .inr rfl
  | x :: r, i, h => by
    unfold fewF at h
    split at h
    · simp at h
    · rename_i hx
      left
      rcases fewF_len r (i + 1) h with h1 | rfl
      · simp; omega
      · simp; omega

theorem RetL.open {xs : List Int} {w w' : World} {e : Ending} (h : RetL xs w e w') : ∃ a cap, e = .returned (.slice a xs.length cap) ∧ RdI w' a xs.length xs ∧ Below w.heap.size w w' := by
  obtain ⟨v, rfl, hown, hb⟩ := h
  obtain ⟨a, cap, rfl, hrd⟩ := own_rd hown
  exact ⟨a, cap, rfl, hrd, hb⟩

theorem same_self (a a' : Option Addr) (n cap n' cap' : Nat) (xs : List Bool) (w : World) (h : RdB w a n xs) (h' : RdB w a' n' xs) :
    Calls Try.prog 13 #[.slice a n cap, .slice a' n' cap'] w fun e w' => e = .returned (.bool true) ∧ Below w.heap.size w w' := by
  have := same_any a a' n cap n' cap' xs xs w h h'
  rwa [decide_eq_true rfl] at this

theorem ints_self (a a' : Option Addr) (n cap n' cap' : Nat) (xs : List Int) (w : World) (h : RdI w a n xs) (h' : RdI w a' n' xs) :
    Calls Try.prog 16 #[.slice a n cap, .slice a' n' cap'] w fun e w' => e = .returned (.bool true) ∧ Below w.heap.size w w' := by
  have := ints_any a a' n cap n' cap' xs xs w h h'
  rwa [decide_eq_true rfl] at this

set_option maxRecDepth 100000 in
set_option maxHeartbeats 1600000 in
theorem runsModules_walk (a : Option Addr) (n cap : Nat) (zs : List Int) (w : World) (h : RdI w a n zs) :
    Calls Try.prog 3 #[.slice a n cap] w fun e w' => e = .returned (.bool true) ∧ Below w.heap.size w w' := by
  have hlen := h.length
  cases hf : fewF 0 zs with
  | false =>
    clear hlen
    go_enter Try.func3, Try.ntmps3
    go_wp2_with fail
    refine (few_any a n cap zs w h).mono ?_
    rintro e w' ⟨rfl, rfl⟩
    rw [hf]
    go_wp2_with fail
    refine (alive_any _).mono ?_
    rintro e w1 ⟨rfl, hb⟩
    go_wp2
    go_ret
    exact ⟨rfl, hb⟩
  | true =>
    have hn : n ≤ 60 := by
      rcases fewF_len zs 0 hf with h1 | rfl
      · omega
      · simp at hlen; omega
    clear hlen
    go_enter Try.func3, Try.ntmps3
    go_wp2_with fail
    refine (few_any a n cap zs w h).mono ?_
    rintro e w' ⟨rfl, rfl⟩
    rw [hf]
    go_wp2_with fail
    refine (modules_any a n cap zs _ h (by omega)).mono ?_
    rintro e w2 hret
    obtain ⟨ma, mc, rfl, m, b2⟩ := hret.open
    replace h := h.below b2
    go_wp2_with fail
    refine (refModules_any a n cap zs _ h (by omega)).mono ?_
    rintro e w3 hret
    obtain ⟨ra, rc, rfl, r, b3⟩ := hret.open
    replace h := h.below b3
    replace m := m.below b3
    replace b3 := below_tr b2 b3
    clear b2
    go_wp2_with fail
    refine (same_self _ _ _ _ _ _ _ _ m r).mono ?_
    rintro e w4 ⟨rfl, b4⟩
    replace h := h.below b4
    replace m := m.below b4
    replace r := r.below b4
    replace b4 := below_tr b3 b4
    clear b3
    go_wp2_with fail
    refine (alive_any _).mono ?_
    rintro e w5 ⟨rfl, b5⟩
    replace h := h.below b5
    replace m := m.below b5
    replace r := r.below b5
    replace b5 := below_tr b4 b5
    clear b4
    go_wp2
    go_ret
    exact ⟨rfl, b5⟩

set_option maxRecDepth 100000 in
set_option maxHeartbeats 1600000 in
theorem runsWidths_walk (a : Option Addr) (n cap : Nat) (bs : List Bool) (w : World) (h : RdB w a n bs) :
    Calls Try.prog 4 #[.slice a n cap] w fun e w' => e = .returned (.bool true) ∧ Below w.heap.size w w' := by
  by_cases hn : 2000 < n
  · go_enter Try.func4, Try.ntmps4
    go_wp2_with fail
    refine (alive_any _).mono ?_
    rintro e w1 ⟨rfl, hb⟩
    go_wp2
    go_ret
    exact ⟨rfl, hb⟩
  go_enter Try.func4, Try.ntmps4
  go_wp2_with fail
  refine (margins_any a n cap bs _ h).mono ?_
  rintro e w' ⟨rfl, rfl⟩
  go_wp2_with fail
  refine (refMargins_any a n cap bs _ h).mono ?_
  rintro e w' ⟨rfl, rfl⟩
  go_wp2_with fail
  refine (widths_any a n cap bs _ h (by omega)).mono ?_
  rintro e w3 hret
  obtain ⟨ma, mc, rfl, m, b3⟩ := hret.open
  replace h := h.below b3
  go_wp2_with fail
  refine (refWidths_any a n cap bs _ h (by omega)).mono ?_
  rintro e w4 hret
  obtain ⟨ra, rc, rfl, r, b4⟩ := hret.open
  replace h := h.below b4
  replace m := m.below b4
  replace b4 := below_tr b3 b4
  clear b3
  go_wp2_with fail
  refine (ints_self _ _ _ _ _ _ _ _ m r).mono ?_
  rintro e w5 ⟨rfl, b5⟩
  replace h := h.below b5
  replace m := m.below b5
  replace r := r.below b5
  replace b5 := below_tr b4 b5
  clear b4
  go_wp2_with fail
  refine (alive_any _).mono ?_
  rintro e w6 ⟨rfl, b6⟩
  replace h := h.below b6
  replace m := m.below b6
  replace r := r.below b6
  replace b6 := below_tr b5 b6
  clear b5
  go_wp2
  go_ret
  exact ⟨rfl, b6⟩

set_option maxRecDepth 100000 in
set_option maxHeartbeats 1600000 in
theorem runsScales_walk (a : Option Addr) (n cap : Nat) (bs : List Bool) (k : Int) (w : World) (h : RdB w a n bs) (hk2 : k ≤ 9223372036854775807) :
    Calls Try.prog 7 #[.slice a n cap, .int .i64 k] w fun e w' => e = .returned (.bool true) ∧ Below w.heap.size w w' := by
  by_cases hn : 300 < n
  · go_enter Try.func7, Try.ntmps7
    go_wp2_with fail
    refine (alive_any _).mono ?_
    rintro e w1 ⟨rfl, hb⟩
    go_wp2
    go_ret
    exact ⟨rfl, hb⟩
  have hd : decide (300 < n) = false := by simp; omega
  by_cases hk : 100 < k
  · have hd1 : decide (100 < k) = true := by simpa using hk
    by_cases hk3 : k ≤ 65536
    · have hd2 : decide (k ≤ 65536) = true := by simpa using hk3
      go_enter Try.func7, Try.ntmps7
      go_wp2_with fail
      refine (alive_any _).mono ?_
      rintro e w1 ⟨rfl, hb⟩
      go_wp2
      go_ret
      exact ⟨rfl, hb⟩
    · have hd2 : decide (k ≤ 65536) = false := by simpa using hk3
      go_enter Try.func7, Try.ntmps7
      go_wp2_with fail
      refine (stretch_any a n cap bs k _ h (by omega) hk2).mono ?_
      rintro e w1 hret
      obtain ⟨ma, mc, rfl, m, b1⟩ := hret.open
      replace h := h.below b1
      go_wp2_with fail
      refine (refStretch_any a n cap bs k _ h (by omega) hk2).mono ?_
      rintro e w2 hret
      obtain ⟨ra, rc, rfl, r, b2⟩ := hret.open
      replace h := h.below b2
      replace m := m.below b2
      replace b2 := below_tr b1 b2
      clear b1
      go_wp2_with fail
      refine (shrink_any a n cap bs k _ h (by omega) hk2).mono ?_
      rintro e w3 hret
      obtain ⟨pa, pc, rfl, p, b3⟩ := hret.open
      replace h := h.below b3
      replace m := m.below b3
      replace r := r.below b3
      replace b3 := below_tr b2 b3
      clear b2
      go_wp2_with fail
      refine (refShrink_any a n cap bs k _ h (by omega) hk2).mono ?_
      rintro e w4 hret
      obtain ⟨qa, qc, rfl, q, b4⟩ := hret.open
      replace h := h.below b4
      replace m := m.below b4
      replace r := r.below b4
      replace p := p.below b4
      replace b4 := below_tr b3 b4
      clear b3
      go_wp2_with fail
      refine (same_self _ _ _ _ _ _ _ _ m r).mono ?_
      rintro e w5 ⟨rfl, b5⟩
      replace h := h.below b5
      replace m := m.below b5
      replace r := r.below b5
      replace p := p.below b5
      replace q := q.below b5
      replace b5 := below_tr b4 b5
      clear b4
      go_wp2_with fail
      refine (same_self _ _ _ _ _ _ _ _ p q).mono ?_
      rintro e w6 ⟨rfl, b6⟩
      replace h := h.below b6
      replace m := m.below b6
      replace r := r.below b6
      replace p := p.below b6
      replace q := q.below b6
      replace b6 := below_tr b5 b6
      clear b5
      go_wp2_with fail
      refine (alive_any _).mono ?_
      rintro e w7 ⟨rfl, b7⟩
      replace h := h.below b7
      replace m := m.below b7
      replace r := r.below b7
      replace p := p.below b7
      replace q := q.below b7
      replace b7 := below_tr b6 b7
      clear b6
      go_wp2
      go_ret
      exact ⟨rfl, b7⟩
  have hd1 : decide (100 < k) = false := by simpa using hk
  go_enter Try.func7, Try.ntmps7
  go_wp2_with fail
  refine (stretch_any a n cap bs k _ h (by omega) hk2).mono ?_
  rintro e w1 hret
  obtain ⟨ma, mc, rfl, m, b1⟩ := hret.open
  replace h := h.below b1
  go_wp2_with fail
  refine (refStretch_any a n cap bs k _ h (by omega) hk2).mono ?_
  rintro e w2 hret
  obtain ⟨ra, rc, rfl, r, b2⟩ := hret.open
  replace h := h.below b2
  replace m := m.below b2
  replace b2 := below_tr b1 b2
  clear b1
  go_wp2_with fail
  refine (shrink_any a n cap bs k _ h (by omega) hk2).mono ?_
  rintro e w3 hret
  obtain ⟨pa, pc, rfl, p, b3⟩ := hret.open
  replace h := h.below b3
  replace m := m.below b3
  replace r := r.below b3
  replace b3 := below_tr b2 b3
  clear b2
  go_wp2_with fail
  refine (refShrink_any a n cap bs k _ h (by omega) hk2).mono ?_
  rintro e w4 hret
  obtain ⟨qa, qc, rfl, q, b4⟩ := hret.open
  replace h := h.below b4
  replace m := m.below b4
  replace r := r.below b4
  replace p := p.below b4
  replace b4 := below_tr b3 b4
  clear b3
  go_wp2_with fail
  refine (same_self _ _ _ _ _ _ _ _ m r).mono ?_
  rintro e w5 ⟨rfl, b5⟩
  replace h := h.below b5
  replace m := m.below b5
  replace r := r.below b5
  replace p := p.below b5
  replace q := q.below b5
  replace b5 := below_tr b4 b5
  clear b4
  go_wp2_with fail
  refine (same_self _ _ _ _ _ _ _ _ p q).mono ?_
  rintro e w6 ⟨rfl, b6⟩
  replace h := h.below b6
  replace m := m.below b6
  replace r := r.below b6
  replace p := p.below b6
  replace q := q.below b6
  replace b6 := below_tr b5 b6
  clear b5
  go_wp2_with fail
  refine (alive_any _).mono ?_
  rintro e w7 ⟨rfl, b7⟩
  replace h := h.below b7
  replace m := m.below b7
  replace r := r.below b7
  replace p := p.below b7
  replace q := q.below b7
  replace b7 := below_tr b6 b7
  clear b6
  go_wp2
  go_ret
  exact ⟨rfl, b7⟩

end Go.Proofs.Ytcihombiijjndaa
