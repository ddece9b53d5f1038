/-
  The walk of the reference's Pattern. No condition.
-/
import Derived.Test.YtofedeokliljkaaWalkS
namespace Go.Proofs.Ytofedeokliljkaa
open Go.RowKit

set_option maxRecDepth 100000 in
set_option maxHeartbeats 4000000 in
theorem refPattern_low (v : Nat) (w : World) (h : v ≤ 105) : Calls Try.prog 16 #[.int .i64 v] w (RetI (widL v) 0 w) := by
  obtain ⟨i3, hi3, hz3a, hz3b, hz3c⟩ := info_parts info3
  have hd0 : decide ((v : Int) < 0) = false := by simp
  have hd1 : decide (106 < (v : Int)) = false := by simp; omega
  have hwl : widL v = (patL v).map (fun b => (b.toNat : Int) - 48) := by unfold widL; rw [if_neg (by omega)]
  obtain ⟨L, hL⟩ : ∃ L, L = patL v := ⟨_, rfl⟩
  rw [← hL] at hwl
  have HW := Lib.hid hwl; clear hwl
  obtain ⟨hl, ha⟩ := patL_ok v (by omega)
  rw [← hL] at hl ha
  have hla : ∀ b ∈ L, 49 ≤ b.toNat ∧ b.toNat ≤ 52 := by
    intro b hb
    have := List.all_eq_true.1 ha b hb
    simpa using this
  have HLA := Lib.hid hla
  have hsl : (ByteArray.extract ⟨#[50, 49, 50, 50, 50, 50, 50, 50, 50, 49, 50, 50, 50, 50, 50, 50, 50, 49, 49, 50, 49, 50, 50, 51, 49, 50, 49, 51, 50, 50, 49, 51, 49, 50, 50, 50, 49, 50, 50, 50, 49, 51, 49, 50, 50, 51, 49, 50, 49, 51, 50, 50, 49, 50, 50, 50, 49, 50, 49, 51, 50, 50, 49, 51, 49, 50, 50, 51, 49, 50, 49, 50, 49, 49, 50, 50, 51, 50, 49, 50, 50, 49, 51, 50, 49, 50, 50, 50, 51, 49, 49, 49, 51, 50, 50, 50, 49, 50, 51, 49, 50, 50, 49, 50, 51, 50, 50, 49, 50, 50, 51, 50, 49, 49, 50, 50, 49, 49, 51, 50, 50, 50, 49, 50, 51, 49, 50, 49, 51, 50, 49, 50, 50, 50, 51, 49, 49, 50, 51, 49, 50, 49, 51, 49, 51, 49, 49, 50, 50, 50, 51, 50, 49, 49, 50, 50, 51, 50, 49, 50, 50, 49, 51, 49, 50, 50, 49, 50, 51, 50, 50, 49, 49, 50, 51, 50, 50, 50, 49, 49, 50, 49, 50, 49, 50, 51, 50, 49, 50, 51, 50, 49, 50, 51, 50, 49, 50, 49, 49, 49, 49, 51, 50, 51, 49, 51, 49, 49, 50, 51, 49, 51, 49, 51, 50, 49, 49, 49, 50, 51, 49, 51, 49, 51, 50, 49, 49, 51, 49, 51, 50, 51, 49, 49, 50, 49, 49, 51, 49, 51, 50, 51, 49, 49, 49, 51, 50, 51, 49, 51, 49, 49, 49, 49, 50, 49, 51, 51, 49, 49, 50, 51, 51, 49, 49, 51, 50, 49, 51, 49, 49, 49, 51, 49, 50, 51, 49, 49, 51, 51, 50, 49, 49, 51, 51, 49, 50, 49, 51, 49, 51, 49, 50, 49, 50, 49, 49, 51, 51, 49, 50, 51, 49, 49, 51, 49, 50, 49, 51, 49, 49, 51, 50, 49, 51, 51, 49, 49, 50, 49, 51, 49, 51, 49, 51, 49, 49, 49, 50, 51, 51, 49, 49, 51, 50, 49, 51, 51, 49, 49, 50, 49, 51, 49, 50, 49, 49, 51, 51, 49, 50, 51, 49, 49, 51, 51, 50, 49, 49, 49, 51, 49, 52, 49, 49, 49, 50, 50, 49, 52, 49, 49, 52, 51, 49, 49, 49, 49, 49, 49, 49, 50, 50, 52, 49, 49, 49, 52, 50, 50, 49, 50, 49, 49, 50, 52, 49, 50, 49, 52, 50, 49, 49, 52, 49, 49, 50, 50, 49, 52, 49, 50, 50, 49, 49, 49, 50, 50, 49, 52, 49, 49, 50, 52, 49, 50, 49, 50, 50, 49, 49, 52, 49, 50, 50, 52, 49, 49, 49, 52, 50, 49, 49, 50, 49, 52, 50, 50, 49, 49, 50, 52, 49, 50, 49, 49, 50, 50, 49, 49, 49, 52, 52, 49, 51, 49, 49, 49, 50, 52, 49, 49, 49, 50, 49, 51, 52, 49, 49, 49, 49, 49, 49, 50, 52, 50, 49, 50, 49, 49, 52, 50, 49, 50, 49, 50, 52, 49, 49, 49, 52, 50, 49, 50, 49, 50, 52, 49, 49, 50, 49, 50, 52, 50, 49, 49, 52, 49, 49, 50, 49, 50, 52, 50, 49, 49, 49, 50, 52, 50, 49, 50, 49, 49, 50, 49, 50, 49, 52, 49, 50, 49, 52, 49, 50, 49, 52, 49, 50, 49, 50, 49, 49, 49, 49, 49, 52, 51, 49, 49, 49, 51, 52, 49, 49, 51, 49, 49, 52, 49, 49, 49, 52, 49, 49, 51, 49, 49, 52, 51, 49, 49, 52, 49, 49, 49, 49, 51, 52, 49, 49, 51, 49, 49, 49, 49, 51, 49, 52, 49, 49, 49, 52, 49, 51, 49, 51, 49, 49, 49, 52, 49, 52, 49, 49, 49, 51, 49, 50, 49, 49, 52, 49, 50, 50, 49, 49, 50, 49, 52, 50, 49, 49, 50, 51, 50]⟩ (6 * v) (6 * v + 6)).data.toList = L := by rw [hL]; unfold patL patB; rw [show v * 6 = 6 * v by omega, show (v + 1) * 6 = 6 * v + 6 by omega]
  obtain ⟨m, hm⟩ : ∃ m, m = 6 := ⟨_, rfl⟩
  have hm7 : m ≤ 7 := by omega
  clear hla ha
  go_enter Try.func16, Try.ntmps16
  go_wp2
  generalize hS : ByteArray.extract ⟨#[50, 49, 50, 50, 50, 50, 50, 50, 50, 49, 50, 50, 50, 50, 50, 50, 50, 49, 49, 50, 49, 50, 50, 51, 49, 50, 49, 51, 50, 50, 49, 51, 49, 50, 50, 50, 49, 50, 50, 50, 49, 51, 49, 50, 50, 51, 49, 50, 49, 51, 50, 50, 49, 50, 50, 50, 49, 50, 49, 51, 50, 50, 49, 51, 49, 50, 50, 51, 49, 50, 49, 50, 49, 49, 50, 50, 51, 50, 49, 50, 50, 49, 51, 50, 49, 50, 50, 50, 51, 49, 49, 49, 51, 50, 50, 50, 49, 50, 51, 49, 50, 50, 49, 50, 51, 50, 50, 49, 50, 50, 51, 50, 49, 49, 50, 50, 49, 49, 51, 50, 50, 50, 49, 50, 51, 49, 50, 49, 51, 50, 49, 50, 50, 50, 51, 49, 49, 50, 51, 49, 50, 49, 51, 49, 51, 49, 49, 50, 50, 50, 51, 50, 49, 49, 50, 50, 51, 50, 49, 50, 50, 49, 51, 49, 50, 50, 49, 50, 51, 50, 50, 49, 49, 50, 51, 50, 50, 50, 49, 49, 50, 49, 50, 49, 50, 51, 50, 49, 50, 51, 50, 49, 50, 51, 50, 49, 50, 49, 49, 49, 49, 51, 50, 51, 49, 51, 49, 49, 50, 51, 49, 51, 49, 51, 50, 49, 49, 49, 50, 51, 49, 51, 49, 51, 50, 49, 49, 51, 49, 51, 50, 51, 49, 49, 50, 49, 49, 51, 49, 51, 50, 51, 49, 49, 49, 51, 50, 51, 49, 51, 49, 49, 49, 49, 50, 49, 51, 51, 49, 49, 50, 51, 51, 49, 49, 51, 50, 49, 51, 49, 49, 49, 51, 49, 50, 51, 49, 49, 51, 51, 50, 49, 49, 51, 51, 49, 50, 49, 51, 49, 51, 49, 50, 49, 50, 49, 49, 51, 51, 49, 50, 51, 49, 49, 51, 49, 50, 49, 51, 49, 49, 51, 50, 49, 51, 51, 49, 49, 50, 49, 51, 49, 51, 49, 51, 49, 49, 49, 50, 51, 51, 49, 49, 51, 50, 49, 51, 51, 49, 49, 50, 49, 51, 49, 50, 49, 49, 51, 51, 49, 50, 51, 49, 49, 51, 51, 50, 49, 49, 49, 51, 49, 52, 49, 49, 49, 50, 50, 49, 52, 49, 49, 52, 51, 49, 49, 49, 49, 49, 49, 49, 50, 50, 52, 49, 49, 49, 52, 50, 50, 49, 50, 49, 49, 50, 52, 49, 50, 49, 52, 50, 49, 49, 52, 49, 49, 50, 50, 49, 52, 49, 50, 50, 49, 49, 49, 50, 50, 49, 52, 49, 49, 50, 52, 49, 50, 49, 50, 50, 49, 49, 52, 49, 50, 50, 52, 49, 49, 49, 52, 50, 49, 49, 50, 49, 52, 50, 50, 49, 49, 50, 52, 49, 50, 49, 49, 50, 50, 49, 49, 49, 52, 52, 49, 51, 49, 49, 49, 50, 52, 49, 49, 49, 50, 49, 51, 52, 49, 49, 49, 49, 49, 49, 50, 52, 50, 49, 50, 49, 49, 52, 50, 49, 50, 49, 50, 52, 49, 49, 49, 52, 50, 49, 50, 49, 50, 52, 49, 49, 50, 49, 50, 52, 50, 49, 49, 52, 49, 49, 50, 49, 50, 52, 50, 49, 49, 49, 50, 52, 50, 49, 50, 49, 49, 50, 49, 50, 49, 52, 49, 50, 49, 52, 49, 50, 49, 52, 49, 50, 49, 50, 49, 49, 49, 49, 49, 52, 51, 49, 49, 49, 51, 52, 49, 49, 51, 49, 49, 52, 49, 49, 49, 52, 49, 49, 51, 49, 49, 52, 51, 49, 49, 52, 49, 49, 49, 49, 51, 52, 49, 49, 51, 49, 49, 49, 49, 51, 49, 52, 49, 49, 49, 52, 49, 51, 49, 51, 49, 49, 49, 52, 49, 52, 49, 49, 49, 51, 49, 50, 49, 49, 52, 49, 50, 50, 49, 49, 50, 49, 52, 50, 49, 49, 50, 51, 50]⟩ (6 * v) (6 * v + 6) = S at *
  have HSL := Lib.hid hsl
  have HSZ : Hid (S.size = m) := by
    have h1 : S.data.toList.length = 6 := by rw [hsl]; exact hl
    rw [hm, ← h1]; rfl
  clear hS hsl hl hL hm
  go_loopw [5, 6] (fun v i wr => ∃ (k : Nat), k ≤ m ∧ i = .int .i64 k ∧ wr.ownsRow w.heap.size 3 1 v k (((L.take k).map (fun b => (b.toNat : Int) - 48)).map (Value.int .i64)) ∧ Below w.heap.size w wr) (fun _ i _ => m - (intOf i).toNat)
  case atStart => exact ⟨0, Nat.zero_le _, rfl, World.ownsRow_nil _ _ _ _, Below.refl _ _⟩
  case round =>
    obtain ⟨k, hk, rfl, hown, hB⟩ := hrel
    have hsm := HSZ.out
    by_cases hlt : k < m
    · have hks : k < S.size := by omega
      have hel : L[k]? = some S[k] := by rw [← HSL.out]; simp [hks]; rfl
      have hbd := HLA.out S[k] (List.mem_of_getElem? hel)
      have hnx : ((L.take (k + 1)).map (fun b => (b.toNat : Int) - 48)).map (Value.int .i64) = ((L.take k).map (fun b => (b.toNat : Int) - 48)).map (Value.int .i64) ++ [.int .i64 (((S[k].toNat : Int) - 48) % 256)] := by
        rw [List.take_add_one, hel]
        simp
        omega
      have HNX := Lib.hid hnx
      clear hel hbd hnx hsm
      go_wp2_with (at_builtin; refine wpList_append_own _ rfl _ _ 22 rfl w.heap.size 3 i3 (.int .i64 0) 1 8 Try.underlying22 hi3 hz3a hz3b hz3c rfl (by decide) _ _ _ rfl (hown.alloc _) ⟨wr.heap.size, 0, none⟩ 1 1 [.int .i64 (((S[k].toNat : Int) - 48) % 256)] rfl rfl (cell_one_new _ _ _) (by simp [Value.oneCell']) ?c3 ?c4 ?c5 ?_)
      case c3 => unfold maxLen; omega
      case c4 => omega
      case c5 => have := hB.size; simp; omega
      intro v' w1 hown' hgrow _
      have hB3 := below_app hB hB.size hown hgrow
      clear hgrow hown
      go_wp2
      go_roundw
      case rel => exact ⟨k + 1, by omega, by go_num, own_congr hown' rfl (by rw [HNX.out]; simp), hB3⟩
      case measure => simp [intOf]; omega
    · have hks : ¬ k < S.size := by omega
      clear hsm
      go_wp2
      go_ret2
      have hkm : k = m := by omega
      have hLm : L.length = m := by rw [← HSL.out, ← HSZ.out]; rfl
      rw [HW.out]
      rw [List.take_of_length_le (by omega)] at hown
      exact ⟨_, rfl, own_congr hown (by simp; omega) (by simp), hB⟩

set_option maxRecDepth 100000 in
set_option maxHeartbeats 4000000 in
theorem refPattern_stop (w : World) : Calls Try.prog 16 #[.int .i64 106] w (RetI (widL 106) 0 w) := by
  obtain ⟨i3, hi3, hz3a, hz3b, hz3c⟩ := info_parts info3
  obtain ⟨S, hS⟩ : ∃ S : ByteArray, S = ⟨#[50, 51, 51, 49, 49, 49, 50]⟩ := ⟨_, rfl⟩
  obtain ⟨L, hL⟩ : ∃ L : List UInt8, L = [50, 51, 51, 49, 49, 49, 50] := ⟨_, rfl⟩
  obtain ⟨m, hm⟩ : ∃ m, m = 7 := ⟨_, rfl⟩
  have hm7 : m ≤ 7 := by omega
  have HSL : Hid (S.data.toList = L) := by rw [hS, hL]; rfl
  have HSZ : Hid (S.size = m) := by rw [hS, hm]; rfl
  have HW : Hid (widL 106 = L.map (fun b => (b.toNat : Int) - 48)) := by rw [hL]; rfl
  have HLA : Hid (∀ b ∈ L, 49 ≤ b.toNat ∧ b.toNat ≤ 52) := by rw [hL]; show ∀ b ∈ ([50, 51, 51, 49, 49, 49, 50] : List UInt8), 49 ≤ b.toNat ∧ b.toNat ≤ 52; decide
  have HS := Lib.hid hS
  clear hS hL hm
  go_enter Try.func16, Try.ntmps16
  go_wp2
  rw [← HS.out]
  clear HS
  go_loopw [5, 6] (fun v i wr => ∃ (k : Nat), k ≤ m ∧ i = .int .i64 k ∧ wr.ownsRow w.heap.size 3 1 v k (((L.take k).map (fun b => (b.toNat : Int) - 48)).map (Value.int .i64)) ∧ Below w.heap.size w wr) (fun _ i _ => m - (intOf i).toNat)
  case atStart => exact ⟨0, Nat.zero_le _, rfl, World.ownsRow_nil _ _ _ _, Below.refl _ _⟩
  case round =>
    obtain ⟨k, hk, rfl, hown, hB⟩ := hrel
    have hsm := HSZ.out
    by_cases hlt : k < m
    · have hks : k < S.size := by omega
      have hel : L[k]? = some S[k] := by rw [← HSL.out]; simp [hks]; rfl
      have hbd := HLA.out S[k] (List.mem_of_getElem? hel)
      have hnx : ((L.take (k + 1)).map (fun b => (b.toNat : Int) - 48)).map (Value.int .i64) = ((L.take k).map (fun b => (b.toNat : Int) - 48)).map (Value.int .i64) ++ [.int .i64 (((S[k].toNat : Int) - 48) % 256)] := by
        rw [List.take_add_one, hel]
        simp
        omega
      have HNX := Lib.hid hnx
      clear hel hbd hnx hsm
      go_wp2_with (at_builtin; refine wpList_append_own _ rfl _ _ 22 rfl w.heap.size 3 i3 (.int .i64 0) 1 8 Try.underlying22 hi3 hz3a hz3b hz3c rfl (by decide) _ _ _ rfl (hown.alloc _) ⟨wr.heap.size, 0, none⟩ 1 1 [.int .i64 (((S[k].toNat : Int) - 48) % 256)] rfl rfl (cell_one_new _ _ _) (by simp [Value.oneCell']) ?c3 ?c4 ?c5 ?_)
      case c3 => unfold maxLen; omega
      case c4 => omega
      case c5 => have := hB.size; simp; omega
      intro v' w1 hown' hgrow _
      have hB3 := below_app hB hB.size hown hgrow
      clear hgrow hown
      go_wp2
      go_roundw
      case rel => exact ⟨k + 1, by omega, by go_num, own_congr hown' rfl (by rw [HNX.out]; simp), hB3⟩
      case measure => simp [intOf]; omega
    · have hks : ¬ k < S.size := by omega
      clear hsm
      go_wp2
      go_ret2
      have hkm : k = m := by omega
      have hLm : L.length = m := by rw [← HSL.out, ← HSZ.out]; rfl
      rw [HW.out]
      rw [List.take_of_length_le (by omega)] at hown
      exact ⟨_, rfl, own_congr hown (by simp; omega) (by simp), hB⟩

theorem refPattern_any (x : Int) (w : World) : Calls Try.prog 16 #[.int .i64 x] w (RetI (patF x).1 (patF x).2 w) := by
  by_cases h0 : x < 0
  · have hm : patF x = ([], 3) := by unfold patF; rw [if_pos (by omega)]
    have hd : decide (x < 0) = true := by simpa using h0
    rw [hm]
    clear hm
    go_enter Try.func16, Try.ntmps16
    go_wp2
    go_ret2
    exact retI_nil' 3 w
  by_cases h1 : 106 < x
  · have hm : patF x = ([], 3) := by unfold patF; rw [if_pos (by omega)]
    have hd0 : decide (x < 0) = false := by simpa using h0
    have hd : decide (106 < x) = true := by simpa using h1
    rw [hm]
    clear hm
    go_enter Try.func16, Try.ntmps16
    go_wp2
    go_ret2
    exact retI_nil' 3 w
  have hm : patF x = (widL x.toNat, 0) := by unfold patF; rw [if_neg (by omega)]
  rw [hm]
  obtain ⟨v, rfl⟩ := Int.eq_ofNat_of_zero_le (show 0 ≤ x by omega)
  rw [Int.toNat_natCast]
  by_cases h : v = 106
  · subst h; exact refPattern_stop w
  · exact refPattern_low v w (by omega)

end Go.Proofs.Ytofedeokliljkaa
