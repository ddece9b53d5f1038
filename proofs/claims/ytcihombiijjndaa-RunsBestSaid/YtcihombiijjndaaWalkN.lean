/-
  The walk of the reference's Quantize at every input, and of the statement RunsQuantizes: it returns true. No condition.
-/
import Derived.Test.YtcihombiijjndaaWalkL
import Derived.Test.YtcihombiijjndaaWalkM
namespace Go.Proofs.Ytcihombiijjndaa
open Go.RowKit

set_option maxHeartbeats 800000 in
theorem refQuantize_any (a : Option Addr) (n cap : Nat) (zs : List Int) (T : Int) (w : World) (h : RdI w a n zs) (hbig : n ≤ 1099511627776) :
    Calls Try.prog 20 #[.slice a n cap, .int .i64 T] w (RetI (quantize zs T).1 (quantize zs T).2 w) := by
  have hlen := h.length
  by_cases h0 : n = 0
  · subst h0
    have hm : quantize zs T = ([], 5) := by unfold quantize; rw [if_pos hlen]
    rw [hm]
    clear hm hlen h
    go_enter Try.func20, Try.ntmps20
    go_wp2
    go_ret2
    exact retI_nil 5 w
  have hb0 : ((n : Int) == 0) = false := beq_eq_false_iff_ne.2 (by omega)
  by_cases h4 : 65536 < n
  · have hm : quantize zs T = ([], 4) := by unfold quantize; rw [if_neg (by omega), if_pos (by omega)]
    rw [hm]
    clear hm hlen h
    go_enter Try.func20, Try.ntmps20
    go_wp2
    go_ret2
    exact retI_nil 4 w
  by_cases h3 : inR zs = false ∨ T < zs.length ∨ 65536 < T
  · have hm : quantize zs T = ([], 3) := by unfold quantize; rw [if_neg (by omega), if_neg (by omega), if_pos h3]
    rw [hm]
    have htot := total_any a n cap zs w h hbig
    rw [hlen] at h3
    clear hm hlen h
    cases hr : inR zs with
    | false =>
      rw [totalF_bad zs 0 hr] at htot
      clear h3 hr
      go_enter Try.func20, Try.ntmps20
      go_wp2_with fail
      refine htot.mono ?_
      rintro e w' ⟨rfl, rfl⟩
      go_wp2
      go_ret2
      exact retI_nil 3 w
    | true =>
      have hs0 := sumI_nonneg zs hr
      rw [totalF_good zs 0 hr, Int.zero_add] at htot
      rw [hr] at h3
      have h3' : T < n ∨ 65536 < T := by simpa using h3
      clear h3 hr
      generalize sumI zs = S at *
      have hb3 : decide (S < 0) = false := by simp; omega
      by_cases hT : T < n
      · have hd : decide (T < (n : Int)) = true := by simpa using hT
        go_enter Try.func20, Try.ntmps20
        go_wp2_with fail
        refine htot.mono ?_
        rintro e w' ⟨rfl, rfl⟩
        go_wp2
        go_ret2
        exact retI_nil 3 w
      · have hd : decide (T < (n : Int)) = false := by simpa using hT
        have hd2 : decide (65536 < T) = true := by simp; omega
        go_enter Try.func20, Try.ntmps20
        go_wp2_with fail
        refine htot.mono ?_
        rintro e w' ⟨rfl, rfl⟩
        go_wp2
        go_ret2
        exact retI_nil 3 w
  · have hm : quantize zs T = (grF (sumI zs) T zs (T - n).toNat (List.replicate n 1), 0) := by
      unfold quantize; rw [if_neg (by omega), if_neg (by omega), if_neg h3]
      unfold quantR
      have := quant_eq (sumI zs) T zs (by omega) (T - zs.length).toNat
      rw [this, hlen]
    rw [hm]
    refine refQuantize_good a n cap zs _ T w h rfl (by omega) (by omega) ?_ (by omega) (by omega)
    cases hr : inR zs
    · exact absurd (.inl hr) h3
    · rfl

set_option maxRecDepth 100000 in
set_option maxHeartbeats 1600000 in
theorem runsQuantizes_walk (a : Option Addr) (n cap : Nat) (zs : List Int) (T : Int) (w : World) (h : RdI w a n zs) :
    Calls Try.prog 5 #[.slice a n cap, .int .i64 T] w fun e w' => e = .returned (.bool true) ∧ Below w.heap.size w w' := by
  by_cases hn : 60 < n
  · go_enter Try.func5, Try.ntmps5
    go_wp2_with fail
    refine (alive_any _).mono ?_
    rintro e w1 ⟨rfl, hb⟩
    go_wp2
    go_ret
    exact ⟨rfl, hb⟩
  have hd : decide (60 < n) = false := by simp; omega
  by_cases hk : 500 < T
  · have hd1 : decide (500 < T) = true := by simpa using hk
    by_cases hk3 : T ≤ 65536
    · have hd2 : decide (T ≤ 65536) = true := by simpa using hk3
      go_enter Try.func5, Try.ntmps5
      go_wp2_with fail
      refine (alive_any _).mono ?_
      rintro e w1 ⟨rfl, hb⟩
      go_wp2
      go_ret
      exact ⟨rfl, hb⟩
    · have hd2 : decide (T ≤ 65536) = false := by simpa using hk3
      go_enter Try.func5, Try.ntmps5
      go_wp2_with fail
      refine (quantize_any a n cap zs T _ h).mono ?_
      rintro e w1 hret
      obtain ⟨ma, mc, rfl, m, b1⟩ := hret.open
      replace h := h.below b1
      go_wp2_with fail
      refine (refQuantize_any a n cap zs T _ h (by omega)).mono ?_
      rintro e w2 hret
      obtain ⟨ra, rc, rfl, r, b2⟩ := hret.open
      replace h := h.below b2
      replace m := m.below b2
      replace b2 := below_tr b1 b2
      clear b1
      go_wp2_with fail
      refine (ints_self _ _ _ _ _ _ _ _ m r).mono ?_
      rintro e w3 ⟨rfl, b3⟩
      replace h := h.below b3
      replace m := m.below b3
      replace r := r.below b3
      replace b3 := below_tr b2 b3
      clear b2
      go_wp2_with fail
      refine (alive_any _).mono ?_
      rintro e w4 ⟨rfl, b4⟩
      replace h := h.below b4
      replace m := m.below b4
      replace r := r.below b4
      replace b4 := below_tr b3 b4
      clear b3
      go_wp2
      go_ret
      exact ⟨rfl, b4⟩
  have hd1 : decide (500 < T) = false := by simpa using hk
  go_enter Try.func5, Try.ntmps5
  go_wp2_with fail
  refine (quantize_any a n cap zs T _ h).mono ?_
  rintro e w1 hret
  obtain ⟨ma, mc, rfl, m, b1⟩ := hret.open
  replace h := h.below b1
  go_wp2_with fail
  refine (refQuantize_any a n cap zs T _ h (by omega)).mono ?_
  rintro e w2 hret
  obtain ⟨ra, rc, rfl, r, b2⟩ := hret.open
  replace h := h.below b2
  replace m := m.below b2
  replace b2 := below_tr b1 b2
  clear b1
  go_wp2_with fail
  refine (ints_self _ _ _ _ _ _ _ _ m r).mono ?_
  rintro e w3 ⟨rfl, b3⟩
  replace h := h.below b3
  replace m := m.below b3
  replace r := r.below b3
  replace b3 := below_tr b2 b3
  clear b2
  go_wp2_with fail
  refine (alive_any _).mono ?_
  rintro e w4 ⟨rfl, b4⟩
  replace h := h.below b4
  replace m := m.below b4
  replace r := r.below b4
  replace b4 := below_tr b3 b4
  clear b3
  go_wp2
  go_ret
  exact ⟨rfl, b4⟩

end Go.Proofs.Ytcihombiijjndaa
