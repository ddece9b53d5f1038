/-
  The walks of container/heap's Init and Fix over the queue of runs.Quantize, and of Quantize itself. Condition: fewer than 2^40 widths.
-/
import Derived.Test.YtcihombiijjndaaWalkH
namespace Go.Proofs.Ytcihombiijjndaa
open Go.RowKit

set_option maxHeartbeats 400000 in
theorem up_zero (v : Value) (w : World) : Calls Try.prog 36 #[v, .int .i64 0] w fun e w' => e = .returned (.tuple #[]) ∧ w = w' := by
  go_enter Try.func36, Try.ntmps36
  go_wp2
  refine wp_loop_rounds 1 ?_
  rw [rounds_succ]
  go_wp2
  go_end0
  exact ⟨rfl, rfl⟩

set_option maxHeartbeats 800000 in
theorem fix_any (Bq g n : Nat) (qs : List Sh) (w : World) (h : HQ w Bq g n qs) (hn : n ≤ 1000000) (h0 : 0 < n) :
    Calls Try.prog 31 #[.iface 50 (.pointer (some ⟨Bq, 0, none⟩)), .int .i64 0] w fun e w' => e = .returned (.tuple #[]) ∧ HQ w' Bq g n (downF n qs 0).1 ∧ w.grownBy w' (some g) := by
  have hm := m_len h.cell
  have H := Lib.hid h; clear h
  go_enter Try.func31, Try.ntmps31
  go_wp2_with fail
  refine (len_any _ _ _ _).mono ?_
  rintro e w' ⟨rfl, rfl⟩
  clear hm
  go_wp2_with fail
  refine (down_any Bq g n 0 qs w H.out hn h0).mono ?_
  rintro e w1 ⟨rfl, HQ1, hg1⟩
  cases hd : decide (0 < (downF n qs 0).2) with
  | true =>
    go_wp2
    go_end0
    exact ⟨rfl, HQ1, hg1⟩
  | false =>
    clear hd
    go_wp2_with fail
    refine (up_zero _ _).mono ?_
    rintro e w' ⟨rfl, rfl⟩
    go_wp2
    go_end0
    exact ⟨rfl, HQ1, hg1⟩

set_option maxHeartbeats 800000 in
theorem init_any (Bq g n : Nat) (qs : List Sh) (w : World) (h : HQ w Bq g n qs) (hn : n ≤ 1000000) :
    Calls Try.prog 30 #[.iface 50 (.pointer (some ⟨Bq, 0, none⟩))] w fun e w' => e = .returned (.tuple #[]) ∧ HQ w' Bq g n (initF (n / 2) qs) ∧ w.grownBy w' (some g) := by
  have hm := m_len h.cell
  have H := Lib.hid h; clear h
  go_enter Try.func30, Try.ntmps30
  go_wp2_with fail
  refine (len_any _ _ _ _).mono ?_
  rintro e w' ⟨rfl, rfl⟩
  clear hm
  go_wp2
  go_loopw [3] (fun x wr => ∃ (k : Nat) (qs' : List Sh), k ≤ n / 2 ∧ x = .int .i64 ((k : Int) - 1) ∧ HQ wr Bq g n qs' ∧ w.grownBy wr (some g) ∧ Hid (initF k qs' = initF (n / 2) qs)) (fun x _ => (intOf x + 1).toNat)
  case atStart => exact ⟨n / 2, qs, Nat.le_refl _, by go_num, H.out, grown_refl _ _, rfl⟩
  case round =>
    obtain ⟨k, qs', hk, rfl, hQ, hg, hR⟩ := hrel
    cases k with
    | zero =>
      go_wp2
      go_end0
      exact ⟨rfl, by rw [← hR.out]; exact hQ, hg⟩
    | succ k =>
      have hk0 : 0 ≤ (((k + 1 : Nat) : Int) - 1) := by omega
      rw [show (((k + 1 : Nat) : Int) - 1) = (k : Int) by omega] at *
      go_wp2_with fail
      refine (down_any Bq g n k qs' _ hQ hn (by omega)).mono ?_
      rintro e w1 ⟨rfl, HQ1, hg1⟩
      go_wp2
      go_roundw
      case rel => exact ⟨k, _, by omega, rfl, HQ1, grown_trans hg hg1, by rw [← hR.out, initF, hQ.len]; rfl⟩
      case measure => simp [intOf]
end Go.Proofs.Ytcihombiijjndaa
