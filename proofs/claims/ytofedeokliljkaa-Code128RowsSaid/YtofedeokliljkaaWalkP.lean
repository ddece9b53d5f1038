/-
  The walks of the small functions of package code128 and its reference. Condition: the numbers are small.
-/
import Derived.Test.YtofedeokliljkaaWalkG
import Derived.Test.YtofedeokliljkaaModelC
namespace Go.Proofs.Ytofedeokliljkaa
open Go.RowKit
set_option linter.unusedVariables false

theorem startSet_any (v : Int) (w : World) (h0 : 0 ≤ v) (h1 : v ≤ 1000) : Calls Try.prog 27 #[.int .i64 v] w fun e w' => e = .returned (.int .i64 (v - 101)) ∧ w = w' := by
  go_enter Try.func27, Try.ntmps27
  go_wp2
  go_ret
  exact ⟨ret_int (by omega), rfl⟩

theorem charOf_any (v s : Int) (w : World) (h0 : 0 ≤ v) (h1 : v ≤ 1000) : Calls Try.prog 43 #[.int .i64 v, .int .i64 s] w fun e w' => e = .returned (.int .i64 (charF v s)) ∧ w = w' := by
  go_enter Try.func43, Try.ntmps43
  go_wp2
  all_goals
    go_ret
    refine ⟨ret_int ?_, rfl⟩
    unfold charF
    split <;> simp_all <;> omega

theorem valueOf_any (c s : Int) (w : World) (h0 : 0 ≤ c) (h1 : c ≤ 1000) : Calls Try.prog 46 #[.int .i64 c, .int .i64 s] w fun e w' => e = .returned (.tuple #[.int .i64 (valF c s).1, .bool (valF c s).2]) ∧ w = w' := by
  go_enter Try.func46, Try.ntmps46
  go_wp2
  all_goals
    go_ret2
    refine ⟨?_, rfl⟩
    unfold valF
    repeat' split
    all_goals first | rfl | (exfalso; simp_all; try omega) | (simp_all; try omega)

set_option maxHeartbeats 800000 in
theorem functionValue_any (c s : Int) (w : World) (h0 : 0 ≤ c) (h1 : c ≤ 1000) : Calls Try.prog 48 #[.int .i64 c, .int .i64 s] w fun e w' => e = .returned (.tuple #[.int .i64 (funF c s).1, .bool (funF c s).2]) ∧ w = w' := by
  go_enter Try.func48, Try.ntmps48
  go_wp2
  all_goals
    go_ret2
    refine ⟨?_, rfl⟩
    unfold funF
    repeat' split
    all_goals first | rfl | (exfalso; simp_all; try omega) | (simp_all; try omega)

def digB (c : Int) : Bool := decide (48 ≤ c ∧ c ≤ 57)

set_option maxHeartbeats 800000 in
theorem digit_any (c : Int) (w : World)  : Calls Try.prog 47 #[.int .i64 c] w fun e w' => e = .returned (.bool (digB c)) ∧ w = w' := by
  go_enter Try.func47, Try.ntmps47
  go_wp2
  all_goals
    go_ret
    refine ⟨?_, rfl⟩
    unfold digB
    repeat' split
    all_goals first | rfl | (exfalso; simp_all; try omega) | (simp_all; try omega)

set_option maxHeartbeats 800000 in
theorem data_any (c s : Int) (w : World) (hs0 : 0 ≤ s) (hs1 : s ≤ 2) : Calls Try.prog 42 #[.int .i64 c, .int .i64 s] w fun e w' => e = .returned (.int .i64 (dataF c s)) ∧ w = w' := by
  go_enter Try.func42, Try.ntmps42
  go_wp2
  all_goals
    go_ret
    refine ⟨?_, rfl⟩
    unfold dataF
    repeat' split
    all_goals first | rfl | (exfalso; simp_all; try omega) | (simp_all; try omega)

set_option maxHeartbeats 800000 in
theorem checkValue_any (a : Option Addr) (n cap : Nat) (v0 : Int) (vs : List Int) (w : World) (h : RdI w a n (v0 :: vs)) (hn : n ≤ 1099511627776) (hv : ∀ v ∈ v0 :: vs, 0 ≤ v ∧ v ≤ 200) :
    Calls Try.prog 25 #[.slice a n cap] w fun e w' => e = .returned (.int .i64 (chkF 0 v0 (v0 :: vs))) ∧ w = w' := by
  have hlen := h.length
  have hn1 : 1 ≤ n := by simp at hlen; omega
  obtain ⟨b, off, z0, rfl, hc0, hd0⟩ := h.at 0 (by omega)
  have hzz : z0 = v0 := by simp at hd0; exact hd0.symm
  subst hzz
  have hz0 := hv z0 (by simp)
  have H := Lib.hid h; have HL := Lib.hid hlen; have HV := Lib.hid hv; clear h hd0 hlen hv
  rw [Nat.add_zero] at hc0
  obtain ⟨hz01, hz02⟩ := hz0
  go_enter Try.func25, Try.ntmps25
  go_wp2
  go_loop [3, 11] (fun m i => ∃ (k : Nat) (t : Int), k ≤ n ∧ i = .int .i64 k ∧ m = .int .i64 t ∧ 0 ≤ t ∧ t ≤ 200 ∧ Hid (chkF k t ((z0 :: vs).drop k) = chkF 0 z0 (z0 :: vs))) (fun _ i => n - (intOf i).toNat)
  case atStart => exact ⟨0, z0, by omega, rfl, rfl, by omega, by omega, rfl⟩
  case round =>
    obtain ⟨k, t, hk, rfl, rfl, ht0, ht1, hR⟩ := hrel
    by_cases hlt : k < n
    · obtain ⟨b', off', y, e', hcell, hd⟩ := H.out.at k hlt
      cases e'
      have hy := HV.out y (List.mem_of_mem_drop (by rw [hd]; simp))
      have hr := hR.out
      rw [hd, chkF] at hr
      have HR := Lib.hid hr; clear hr hd hR
      obtain ⟨hy0, hy1⟩ := hy
      have p1 : 0 ≤ (k : Int) * y := Int.mul_nonneg (by omega) hy0
      have p2 : (k : Int) * y ≤ 1099511627776 * 200 := Int.mul_le_mul (by omega) hy1 hy0 (by omega)
      go_wp2
      go_round
      case rel => exact ⟨k + 1, (t + k * y) % 103, by omega, by go_num, rfl, by omega, by omega, HR.out⟩
      case measure => simp [intOf]; omega
    · go_wp2
      go_ret
      have hl := HL.out
      exact ⟨ret_int (by rw [← hR.out, drop_all (by omega)]; rfl), rfl⟩

set_option maxHeartbeats 800000 in
theorem check_any (a : Option Addr) (n cap : Nat) (vs : List Int) (w : World) (h : RdI w a n vs) (hn : n ≤ 1099511627776) :
    Calls Try.prog 24 #[.slice a n cap] w fun e w' => e = .returned (.tuple #[.int .i64 (checkF vs).1, .int .i64 (checkF vs).2]) ∧ w = w' := by
  have hlen := h.length
  cases vs with
  | nil =>
    simp at hlen
    subst hlen
    go_enter Try.func24, Try.ntmps24
    go_wp2
    go_ret2
    exact ⟨rfl, rfl⟩
  | cons v0 vs =>
  have hn1 : 1 ≤ n := by simp at hlen; omega
  have hb0 : ((n : Int) == 0) = false := beq_eq_false_iff_ne.2 (by omega)
  obtain ⟨b, off, z0, rfl, hc0, hd0⟩ := h.at 0 (by omega)
  have hzz : z0 = v0 := by simp at hd0; exact hd0.symm
  subst hzz
  rw [Nat.add_zero] at hc0
  have H := Lib.hid h; have HL := Lib.hid hlen; clear h hd0 hlen
  go_enter Try.func24, Try.ntmps24
  go_wp2
  go_loop [11] (fun i => ∃ (k : Nat), k ≤ n ∧ i = .int .i64 k ∧ Hid (inV 105 ((z0 :: vs).drop k) = inV 105 (z0 :: vs))) (fun i => n - (intOf i).toNat)
  case atStart => exact ⟨0, by omega, rfl, rfl⟩
  case round =>
    obtain ⟨k, hk, rfl, hR⟩ := hrel
    by_cases hlt : k < n
    · obtain ⟨b', off', y, e', hcell, hd⟩ := H.out.at k hlt
      cases e'
      have hr := hR.out
      rw [hd, inV] at hr
      have HR := Lib.hid hr; clear hr hd hR
      go_wp2
      all_goals first
        | (go_ret2
           have hbad : checkF (z0 :: vs) = (0, 3) := by
             unfold checkF
             simp only
             rw [if_pos (by rw [← HR.out, if_pos (by omega)])]
           exact ⟨by rw [hbad]; rfl, rfl⟩)
        | (go_round
           case rel => exact ⟨k + 1, by omega, by go_num, by rw [← HR.out, if_neg (by omega)]; rfl⟩
           case measure => simp [intOf]; omega)
    · have hl := HL.out
      have hall : inV 105 (z0 :: vs) = true := by rw [← hR.out, drop_all (by omega)]; rfl
      have HALL := Lib.hid hall
      clear hall hR hl
      by_cases hz : z0 < 103
      · go_wp2
        go_ret2
        have hbad : checkF (z0 :: vs) = (0, 19) := by
          unfold checkF
          simp only
          rw [if_neg (by rw [HALL.out]; simp), if_pos hz]
        exact ⟨by rw [hbad]; rfl, rfl⟩
      · have hgood : checkF (z0 :: vs) = (chkF 0 z0 (z0 :: vs), 0) := by
          unfold checkF
          simp only
          rw [if_neg (by rw [HALL.out]; simp), if_neg hz]
        have HG := Lib.hid hgood; clear hgood
        go_wp2_with fail
        refine (checkValue_any _ _ _ z0 vs _ H.out hn (fun v hv => by have := inV_mem HALL.out v hv; omega)).mono ?_
        rintro e w' ⟨rfl, rfl⟩
        go_wp2
        go_ret2
        exact ⟨by rw [HG.out]; rfl, rfl⟩

set_option maxHeartbeats 800000 in
theorem refCheck_any (a : Option Addr) (n cap : Nat) (vs : List Int) (w : World) (h : RdI w a n vs) (hn : n ≤ 1099511627776) :
    Calls Try.prog 14 #[.slice a n cap] w fun e w' => e = .returned (.tuple #[.int .i64 (checkF vs).1, .int .i64 (checkF vs).2]) ∧ w = w' := by
  have hlen := h.length
  cases vs with
  | nil =>
    simp at hlen
    subst hlen
    go_enter Try.func14, Try.ntmps14
    go_wp2
    go_ret2
    exact ⟨rfl, rfl⟩
  | cons v0 vs =>
  have hn1 : 1 ≤ n := by simp at hlen; omega
  have hb0 : ((n : Int) == 0) = false := beq_eq_false_iff_ne.2 (by omega)
  obtain ⟨b, off, z0, rfl, hc0, hd0⟩ := h.at 0 (by omega)
  have hzz : z0 = v0 := by simp at hd0; exact hd0.symm
  subst hzz
  rw [Nat.add_zero] at hc0
  have H := Lib.hid h; have HL := Lib.hid hlen; clear h hd0 hlen
  go_enter Try.func14, Try.ntmps14
  go_wp2
  go_loop [4, 5] (fun m i => ∃ (k : Nat) (t : Int), k ≤ n ∧ i = .int .i64 k ∧ m = .int .i64 t ∧ 0 ≤ t ∧ t < 103 ∧ Hid (inV 105 ((z0 :: vs).drop k) = inV 105 (z0 :: vs)) ∧ Hid (rchkF k t ((z0 :: vs).drop k) = rchkF 0 0 (z0 :: vs))) (fun _ i => n - (intOf i).toNat)
  case atStart => exact ⟨0, 0, by omega, rfl, rfl, by omega, by omega, rfl, rfl⟩
  case round =>
    obtain ⟨k, t, hk, rfl, rfl, ht0, ht1, hR, hS⟩ := hrel
    by_cases hlt : k < n
    · obtain ⟨b', off', y, e', hcell, hd⟩ := H.out.at k hlt
      cases e'
      have hr := hR.out
      have hs := hS.out
      rw [hd, inV] at hr
      rw [hd, rchkF] at hs
      have HR := Lib.hid hr; have HS := Lib.hid hs; clear hr hs hd hR hS
      have hmax : (if (1 : Int) < (k : Int) then (k : Int) else 1) = ((max 1 k : Nat) : Int) := by split <;> omega
      obtain ⟨mk, hmk⟩ : ∃ mk : Nat, mk = max 1 k := ⟨_, rfl⟩
      rw [← hmk] at hmax
      have HMK := Lib.hid hmk
      have hmk2 : mk ≤ 1099511627776 := by omega
      clear hmk
      by_cases hy : y < 0 ∨ 105 < y
      · have hbad : checkF (z0 :: vs) = (0, 3) := by
          unfold checkF
          simp only
          rw [if_pos (by rw [← HR.out, if_pos hy])]
        have HB := Lib.hid hbad; clear hbad
        rcases hy with hy | hy
        all_goals
          go_wp2
          go_ret2
          exact ⟨by rw [HB.out]; rfl, rfl⟩
      · have p1 : 0 ≤ (mk : Int) * y := Int.mul_nonneg (by omega) (by omega)
        have p2 : (mk : Int) * y ≤ 1099511627776 * 200 := Int.mul_le_mul (by omega) (by omega) (by omega) (by omega)
        have hd1 : decide (y < 0) = false := by simp; omega
        have hd2 : decide (105 < y) = false := by simp; omega
        go_wp2
        go_round
        case rel => exact ⟨k + 1, (t + mk * y) % 103, by omega, by go_num, rfl, by omega, by omega, by rw [← HR.out, if_neg (by omega)]; rfl, by rw [← HS.out, HMK.out]; rfl⟩
        case measure => simp [intOf]; omega
    · have hl := HL.out
      have hall : inV 105 (z0 :: vs) = true := by rw [← hR.out, drop_all (by omega)]; rfl
      have hsum : chkF 0 z0 (z0 :: vs) = t := by rw [← rchk_eq, ← hS.out, drop_all (by omega)]; rfl
      have HALL := Lib.hid hall; have HSUM := Lib.hid hsum
      clear hall hR hl hS hsum
      by_cases hz : z0 < 103
      · go_wp2
        go_ret2
        have hbad : checkF (z0 :: vs) = (0, 19) := by
          unfold checkF
          simp only
          rw [if_neg (by rw [HALL.out]; simp), if_pos hz]
        exact ⟨by rw [hbad]; rfl, rfl⟩
      · have hgood : checkF (z0 :: vs) = (t, 0) := by
          unfold checkF
          simp only
          rw [if_neg (by rw [HALL.out]; simp), if_neg hz, HSUM.out]
        have HG := Lib.hid hgood; clear hgood
        go_wp2
        go_ret2
        exact ⟨by rw [HG.out]; rfl, rfl⟩

end Go.Proofs.Ytofedeokliljkaa
