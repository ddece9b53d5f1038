/-
  The walks of the reference's place and Fits. No condition.
-/
import Derived.Test.YtifgpjhodajccaaRefA
namespace Go.Proofs.Ytifgpjhodajccaa
open Go.RowKit

def alnumL : List Int := [48, 49, 50, 51, 52, 53, 54, 55, 56, 57, 65, 66, 67, 68, 69, 70, 71, 72, 73, 74, 75, 76, 77, 78, 79, 80, 81, 82, 83, 84, 85, 86, 87, 88, 89, 90, 32, 36, 37, 42, 43, 45, 46, 47, 58]

def alnumS : ByteArray := ⟨#[48, 49, 50, 51, 52, 53, 54, 55, 56, 57, 65, 66, 67, 68, 69, 70, 71, 72, 73, 74, 75, 76, 77, 78, 79, 80, 81, 82, 83, 84, 85, 86, 87, 88, 89, 90, 32, 36, 37, 42, 43, 45, 46, 47, 58]⟩

theorem alnum_at : ∀ j : Nat, j < 45 → (((alnumS.data[j]?.getD 0).toNat : Nat) : Int) = alnumL.getD j 0 := by decide +kernel

theorem alnum_get (j : Nat) (h : j < alnumS.size) : ((alnumS[j].toNat : Nat) : Int) = alnumL.getD j 0 := by
  have hs : alnumS.size = 45 := rfl
  rw [← alnum_at j (by omega)]
  have : alnumS[j] = alnumS.data[j]'h := rfl
  rw [this, Array.getElem?_eq_getElem (show j < alnumS.data.size from h)]
  rfl

theorem alnum_mem : ∀ c : Nat, c < 256 → alnumB (c : Int) = decide ((c : Int) ∈ alnumL) := by decide +kernel

set_option maxRecDepth 100000 in
set_option maxHeartbeats 4000000 in
theorem place_any (c : Nat) (w : World) (hc : c < 256) : Calls Try.prog 87 #[.int .u8 c] w fun e w' => (∃ r : Int, e = .returned (.int .i64 r) ∧ decide (0 ≤ r) = alnumB c) ∧ w = w' := by
  have HA := Lib.hid (alnum_mem c hc)
  go_enter Try.func87, Try.ntmps87
  go_wp2_with fail
  go_loop [3] (fun x => ∃ j : Nat, j ≤ 45 ∧ x = .int .i64 j ∧ Hid (∀ z ∈ alnumL.take j, z ≠ (c : Int))) (fun x => 45 - (Lib.intOf x).toNat)
  case atStart => exact ⟨0, by omega, rfl, Lib.hid (by simp)⟩
  case round =>
    obtain ⟨j, hj, rfl, hP⟩ := hrel
    by_cases hlt : j < 45
    · have q0 : (0 : Int) ≤ (j : Int) := by omega
      have q1 : (j : Int) < 45 := by omega
      go_wp2_with fail
      · rename_i h _
        have hz : alnumL.getD j 0 = (c : Int) := by
          rw [← alnum_get j hlt]
          exact beq_iff_eq.1 h
        have hmem : (c : Int) ∈ alnumL := by
          rw [← hz, List.getD_eq_getElem?_getD, List.getElem?_eq_getElem (show j < alnumL.length from hlt)]
          exact List.getElem_mem _
        go_ret
        exact ⟨⟨_, rfl, by rw [HA.out]; simp [hmem]⟩, rfl⟩
      · rename_i h
        have hz : alnumL.getD j 0 ≠ (c : Int) := by
          rw [← alnum_get j hlt]
          exact beq_eq_false_iff_ne.1 h
        go_round
        case rel =>
          refine ⟨j + 1, by omega, by go_num, Lib.hid ?_⟩
          rw [List.take_add_one, List.getElem?_eq_getElem (show j < alnumL.length from hlt)]
          intro z hzm
          rcases List.mem_append.1 hzm with hzm | hzm
          · exact hP.out z hzm
          · simp at hzm; subst hzm
            rw [List.getD_eq_getElem?_getD, List.getElem?_eq_getElem (show j < alnumL.length from hlt)] at hz
            exact hz
        case measure => simp [Lib.intOf]; omega
    · have hno : (c : Int) ∉ alnumL := by
        have := hP.out
        rw [List.take_of_length_le (show alnumL.length ≤ j by show 45 ≤ j; omega)] at this
        exact fun h => this _ h rfl
      have HNO := Lib.hid hno
      clear hno
      go_wp2_with fail
      go_ret
      exact ⟨⟨_, rfl, by rw [HA.out]; simp [HNO.out]⟩, rfl⟩

set_option maxRecDepth 100000 in
set_option maxHeartbeats 4000000 in
theorem refFits_any (m c : Nat) (w : World) (hm : isMode m) (hc : c < 256) : Calls Try.prog 65 #[.int .i64 m, .int .u8 c] w fun e w' => e = .returned (.bool (fitsM m c)) ∧ w = w' := by
  have HP := Lib.hid (fun W => place_any c W hc)
  rcases hm with rfl | rfl | rfl
  · go_enter Try.func65, Try.ntmps65
    go_wp2
    all_goals
      go_ret
      refine ⟨ret_bool ?_, rfl⟩
      unfold fitsM
      rw [if_pos rfl, Bool.eq_iff_iff]
      simp_all <;> omega
  · go_enter Try.func65, Try.ntmps65
    go_wp2_with fail
    refine (HP.out _).mono ?_
    rintro e w' ⟨⟨r, rfl, hr⟩, rfl⟩
    have HR := Lib.hid hr
    clear hr
    go_wp2
    all_goals
      go_ret
      refine ⟨ret_bool ?_, rfl⟩
      show _ = alnumB c
      rw [← HR.out]
  · go_enter Try.func65, Try.ntmps65
    go_wp2
    go_ret
    exact ⟨rfl, rfl⟩

end Go.Proofs.Ytifgpjhodajccaa
