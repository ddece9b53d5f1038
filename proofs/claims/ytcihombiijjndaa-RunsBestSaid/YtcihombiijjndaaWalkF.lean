/-
  The walks of slices.Min, slices.Max, and of Wide and Unit at the examples of the chapter. No condition.
-/
import Derived.Test.YtcihombiijjndaaWalkB
namespace Go.Proofs.Ytcihombiijjndaa
open Go.RowKit

def mn (t y : Int) : Int := if y < t then y else t
def mx (t y : Int) : Int := if t < y then y else t

set_option maxHeartbeats 400000 in
theorem slmin_any (a : Option Addr) (n cap : Nat) (z : Int) (zs : List Int) (w : World) (h : RdI w a n (z :: zs)) :
    Calls Try.prog 32 #[.slice a n cap] w fun e w' => e = .returned (.int .i64 (zs.foldl mn z)) ∧ w = w' := by
  have hle := h.le
  have hlen := h.length
  have hn1 : 1 ≤ n := by simp at hlen; omega
  obtain ⟨b, off, z0, rfl, hc0, hd0⟩ := h.at 0 (by omega)
  have hzz : z0 = z := by simp at hd0; exact hd0.symm
  subst hzz
  have H := Lib.hid h; have HL := Lib.hid hlen; clear h hd0 hlen
  rw [Nat.add_zero] at hc0
  go_enter Try.func32, Try.ntmps32
  go_wp2
  go_loop [3, 4] (fun m i => ∃ (k : Nat) (t : Int), 1 ≤ k ∧ k ≤ n ∧ i = .int .i64 k ∧ m = .int .i64 t ∧ Hid (((z0 :: zs).drop k).foldl mn t = zs.foldl mn z0)) (fun _ i => n - (intOf i).toNat)
  case atStart => exact ⟨1, z0, by omega, by omega, rfl, rfl, rfl⟩
  case round =>
    obtain ⟨k, t, hk1, hk, rfl, rfl, hR⟩ := hrel
    by_cases hlt : k < n
    · obtain ⟨b', off', y, e', hcell, hd⟩ := H.out.at k hlt
      cases e'
      have hr := hR.out
      rw [hd, List.foldl_cons] at hr
      have HR := Lib.hid hr; clear hr hd hR
      go_wp2
      go_round
      case rel => exact ⟨k + 1, mn t y, by omega, by omega, by go_num, by simp [mn], HR.out⟩
      case measure => simp [intOf]; omega
    · go_wp2
      go_ret
      have hl := HL.out
      exact ⟨ret_int (by rw [← hR.out, drop_all (by omega)]; rfl), rfl⟩

set_option maxHeartbeats 400000 in
theorem slmax_any (a : Option Addr) (n cap : Nat) (z : Int) (zs : List Int) (w : World) (h : RdI w a n (z :: zs)) :
    Calls Try.prog 33 #[.slice a n cap] w fun e w' => e = .returned (.int .i64 (zs.foldl mx z)) ∧ w = w' := by
  have hle := h.le
  have hlen := h.length
  have hn1 : 1 ≤ n := by simp at hlen; omega
  obtain ⟨b, off, z0, rfl, hc0, hd0⟩ := h.at 0 (by omega)
  have hzz : z0 = z := by simp at hd0; exact hd0.symm
  subst hzz
  have H := Lib.hid h; have HL := Lib.hid hlen; clear h hd0 hlen
  rw [Nat.add_zero] at hc0
  go_enter Try.func33, Try.ntmps33
  go_wp2
  go_loop [3, 4] (fun m i => ∃ (k : Nat) (t : Int), 1 ≤ k ∧ k ≤ n ∧ i = .int .i64 k ∧ m = .int .i64 t ∧ Hid (((z0 :: zs).drop k).foldl mx t = zs.foldl mx z0)) (fun _ i => n - (intOf i).toNat)
  case atStart => exact ⟨1, z0, by omega, by omega, rfl, rfl, rfl⟩
  case round =>
    obtain ⟨k, t, hk1, hk, rfl, rfl, hR⟩ := hrel
    by_cases hlt : k < n
    · obtain ⟨b', off', y, e', hcell, hd⟩ := H.out.at k hlt
      cases e'
      have hr := hR.out
      rw [hd, List.foldl_cons] at hr
      have HR := Lib.hid hr; clear hr hd hR
      go_wp2
      go_round
      case rel => exact ⟨k + 1, mx t y, by omega, by omega, by go_num, by simp [mx], HR.out⟩
      case measure => simp [intOf]; omega
    · go_wp2
      go_ret
      have hl := HL.out
      exact ⟨ret_int (by rw [← hR.out, drop_all (by omega)]; rfl), rfl⟩


set_option maxHeartbeats 1600000 in
theorem wide_ex (b cap : Nat) (w : World) (h : RdI w (some ⟨b, 0, none⟩) 4 [2, 4, 2, 5]) :
    Calls Try.prog 25 #[.slice (some ⟨b, 0, none⟩) 4 cap] w (RetB [false, true, false, true] 0 w) := by
  have c0 := h.cellI 0 (by omega) (z := 2) rfl
  have c1 := h.cellI 1 (by omega) (z := 4) rfl
  have c2 := h.cellI 2 (by omega) (z := 2) rfl
  have c3 := h.cellI 3 (by omega) (z := 5) rfl
  simp only [Nat.zero_add] at c0 c1 c2 c3
  have hb := lt_of_cell c0
  have hmk : ∀ w, (Instr.makeSlice 25 (.int .i64 4) (.int .i64 4)).run Try.prog w = .ok (.slice (some ⟨w.heap.size, 0, none⟩) 4 4) (w.alloc (.cells #[.bool false, .bool false, .bool false, .bool false] 4)) := fun _ => by kernel_rfl
  have H := Lib.hid h; clear h
  go_enter Try.func25, Try.ntmps25
  go_wp2_with fail
  refine (inRange_any _ _ _ _ _ H.out).mono ?_
  rintro e w' ⟨rfl, rfl⟩
  rw [show inR [2, 4, 2, 5] = true from rfl]
  go_wp2_with fail
  have hBa : Below w.heap.size w (w.alloc (.cells #[.bool false, .bool false, .bool false, .bool false] 4)) := (Below.refl _ _).alloc (Nat.le_refl _) _
  refine (slmin_any _ _ _ _ _ _ (H.out.below hBa)).mono ?_
  rintro e w' ⟨rfl, rfl⟩
  rw [show [4, 2, 5].foldl mn 2 = 2 from rfl]
  go_wp2_with fail
  refine (slmax_any _ _ _ _ _ _ (H.out.below hBa)).mono ?_
  rintro e w' ⟨rfl, rfl⟩
  rw [show [4, 2, 5].foldl mx 2 = 5 from rfl]
  go_wp2
  refine wp_loop_rounds 5 ?_
  iterate 5 (rw [rounds_succ]; go_wp2)
  go_ret2
  have hBa' : Below w.heap.size w (w.alloc (.cells #[.bool false, .bool true, .bool false, .bool true] 4)) := (Below.refl _ _).alloc (Nat.le_refl _) _
  exact ⟨_, rfl, own_new w [.bool false, .bool true, .bool false, .bool true] 4 (Nat.le_refl _) rfl (by unfold maxLen; omega), hBa'⟩

set_option maxHeartbeats 1600000 in
theorem unit_ex (b cap : Nat) (w : World) (h : RdI w (some ⟨b, 0, none⟩) 2 [4, 6]) :
    Calls Try.prog 26 #[.slice (some ⟨b, 0, none⟩) 2 cap] w fun e w' => e = .returned (.int .i64 2) ∧ Below w.heap.size w w' := by
  have c0 := h.cellI 0 (by omega) (z := 4) rfl
  have c1 := h.cellI 1 (by omega) (z := 6) rfl
  simp only [Nat.zero_add] at c0 c1
  clear h
  go_enter Try.func26, Try.ntmps26
  go_wp2
  refine wp_loop_rounds 3 ?_
  rw [rounds_succ]
  go_wp2
  refine wp_loop_rounds 2 ?_
  rw [rounds_succ]
  go_wp2
  go_quiet (fail)
  go_wp2
  rw [rounds_succ]
  go_wp2
  rw [rounds_succ]
  go_wp2
  refine wp_loop_rounds 4 ?_
  iterate 3 (rw [rounds_succ]; go_wp2; go_quiet (fail); go_wp2)
  rw [rounds_succ]
  go_wp2
  rw [rounds_succ]
  go_wp2
  go_ret
  exact ⟨rfl, by repeat (first | exact Below.refl _ _ | refine below_drewN ?_ _)⟩
end Go.Proofs.Ytcihombiijjndaa
