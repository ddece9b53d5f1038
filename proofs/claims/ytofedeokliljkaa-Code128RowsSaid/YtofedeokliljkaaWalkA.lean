/-
  The walks of the small functions of package runs and its reference that only read. Condition: a slice holds fewer than 2^47 elements.
-/
import Derived.Test.YtofedeokliljkaaProg
import Derived.Test.YtofedeokliljkaaBase
import Derived.Test.YtofedeokliljkaaModel
namespace Go.Proofs.Ytofedeokliljkaa
open Go.RowKit

set_option maxHeartbeats 400000 in
theorem inRange_any (a : Option Addr) (n cap : Nat) (zs : List Int) (w : World) (h : RdI w a n zs) :
    Calls Try.prog 44 #[.slice a n cap] w fun e w' => e = .returned (.bool (inR zs)) ∧ w = w' := by
  have hle := h.le
  have H := Lib.hid h; clear h
  go_enter Try.func44, Try.ntmps44
  go_wp2
  go_loop [7] (fun i => ∃ k : Nat, k ≤ n ∧ i = .int .i64 k ∧ Hid (inR (zs.drop k) = inR zs)) (fun i => n - (intOf i).toNat)
  case atStart => exact ⟨0, Nat.zero_le _, rfl, rfl⟩
  case round =>
    obtain ⟨k, hk, rfl, hR⟩ := hrel
    by_cases hlt : k < n
    · obtain ⟨b, off, z, rfl, hcell, hd⟩ := H.out.at k hlt
      have hr := hR.out
      rw [hd, inR] at hr
      have HR := Lib.hid hr; clear hr hd hR
      go_wp2
      all_goals first
        | (go_ret; exact ⟨ret_bool (by rw [← HR.out, if_pos (by omega)]), rfl⟩)
        | (go_round
           case rel => exact ⟨k + 1, by omega, by go_num, by rw [← HR.out, if_neg (by omega)]; rfl⟩
           case measure => simp [intOf]; omega)
    · go_wp2
      go_ret
      have hl := H.out.length
      exact ⟨ret_bool (by rw [← hR.out, drop_all (by omega)]; rfl), rfl⟩

set_option maxHeartbeats 400000 in
theorem same_len (a a' : Option Addr) (n cap n' cap' : Nat) (w : World) (h : n ≠ n') :
    Calls Try.prog 19 #[.slice a n cap, .slice a' n' cap'] w fun e w' => e = .returned (.bool false) ∧ Below w.heap.size w w' := by
  have hb : ((n : Int) != (n' : Int)) = true := by rw [bne_iff_ne]; omega
  go_enter Try.func19, Try.ntmps19
  go_wp2
  go_ret
  exact ⟨rfl, Below.refl _ _⟩

set_option maxHeartbeats 400000 in
theorem same_eq (a a' : Option Addr) (n cap cap' : Nat) (xs ys : List Bool) (w : World) (h : RdB w a n xs) (h' : RdB w a' n ys) :
    Calls Try.prog 19 #[.slice a n cap, .slice a' n cap'] w fun e w' => e = .returned (.bool (sameF xs ys)) ∧ Below w.heap.size w w' := by
  have hle := h.le
  have H := Lib.hid h; clear h
  have H' := Lib.hid h'; clear h'
  go_enter Try.func19, Try.ntmps19
  go_wp2
  go_loopw [5] (fun i wr => ∃ k : Nat, k ≤ n ∧ i = .int .i64 k ∧ Below w.heap.size w wr ∧ Hid (sameF (xs.drop k) (ys.drop k) = sameF xs ys)) (fun i _ => n - (intOf i).toNat)
  case atStart => exact ⟨0, Nat.zero_le _, rfl, Below.refl _ _, rfl⟩
  case round =>
    obtain ⟨k, hk, rfl, hB, hR⟩ := hrel
    by_cases hlt : k < n
    · obtain ⟨b, off, x, rfl, hcell, hd⟩ := (H.out.below hB).at k hlt
      obtain ⟨b', off', y, rfl, hcell', hd'⟩ := (H'.out.below hB).at k hlt
      have hr := hR.out
      rw [hd, hd', sameF] at hr
      have HR := Lib.hid hr; clear hr hd hd' hR
      go_wp2
      go_quiet (fail)
      go_wp2
      all_goals first
        | (go_ret; exact ⟨ret_bool (by rw [← HR.out, if_neg (by simp_all)]), below_drewN hB _⟩)
        | (go_roundw
           case rel => exact ⟨k + 1, by omega, by go_num, below_drewN hB _, by rw [← HR.out, if_pos (by simp_all)]; rfl⟩
           case measure => simp [intOf]; omega)
    · go_wp2
      go_ret
      have hl := H.out.length
      exact ⟨ret_bool (by rw [← hR.out, drop_all (by omega)]; rfl), hB⟩

/-- same: whether the two lists are one. -/
theorem same_any (a a' : Option Addr) (n cap n' cap' : Nat) (xs ys : List Bool) (w : World) (h : RdB w a n xs) (h' : RdB w a' n' ys) :
    Calls Try.prog 19 #[.slice a n cap, .slice a' n' cap'] w fun e w' => e = .returned (.bool (decide (xs = ys))) ∧ Below w.heap.size w w' := by
  by_cases e : n = n'
  · subst e
    have := same_eq a a' n cap cap' xs ys w h h'
    rwa [sameF_eq _ _ (by rw [h.length, h'.length])] at this
  · have := same_len a a' n cap n' cap' w e
    have d : decide (xs = ys) = false := by
      rw [decide_eq_false_iff_not]; rintro rfl; exact e (by rw [← h.length, ← h'.length])
    rwa [d]

set_option maxHeartbeats 400000 in
theorem ints_len (a a' : Option Addr) (n cap n' cap' : Nat) (w : World) (h : n ≠ n') :
    Calls Try.prog 13 #[.slice a n cap, .slice a' n' cap'] w fun e w' => e = .returned (.bool false) ∧ Below w.heap.size w w' := by
  have hb : ((n : Int) != (n' : Int)) = true := by rw [bne_iff_ne]; omega
  go_enter Try.func13, Try.ntmps13
  go_wp2
  go_ret
  exact ⟨rfl, Below.refl _ _⟩

set_option maxHeartbeats 400000 in
theorem ints_eq (a a' : Option Addr) (n cap cap' : Nat) (xs ys : List Int) (w : World) (h : RdI w a n xs) (h' : RdI w a' n ys) :
    Calls Try.prog 13 #[.slice a n cap, .slice a' n cap'] w fun e w' => e = .returned (.bool (sameF xs ys)) ∧ Below w.heap.size w w' := by
  have hle := h.le
  have H := Lib.hid h; clear h
  have H' := Lib.hid h'; clear h'
  go_enter Try.func13, Try.ntmps13
  go_wp2
  go_loopw [5] (fun i wr => ∃ k : Nat, k ≤ n ∧ i = .int .i64 k ∧ Below w.heap.size w wr ∧ Hid (sameF (xs.drop k) (ys.drop k) = sameF xs ys)) (fun i _ => n - (intOf i).toNat)
  case atStart => exact ⟨0, Nat.zero_le _, rfl, Below.refl _ _, rfl⟩
  case round =>
    obtain ⟨k, hk, rfl, hB, hR⟩ := hrel
    by_cases hlt : k < n
    · obtain ⟨b, off, x, rfl, hcell, hd⟩ := (H.out.below hB).at k hlt
      obtain ⟨b', off', y, rfl, hcell', hd'⟩ := (H'.out.below hB).at k hlt
      have hr := hR.out
      rw [hd, hd', sameF] at hr
      have HR := Lib.hid hr; clear hr hd hd' hR
      go_wp2
      go_quiet (fail)
      go_wp2
      all_goals first
        | (go_ret; exact ⟨ret_bool (by rw [← HR.out, if_neg (by simp_all)]), below_drewN hB _⟩)
        | (go_roundw
           case rel => exact ⟨k + 1, by omega, by go_num, below_drewN hB _, by rw [← HR.out, if_pos (by simp_all)]; rfl⟩
           case measure => simp [intOf]; omega)
    · go_wp2
      go_ret
      have hl := H.out.length
      exact ⟨ret_bool (by rw [← hR.out, drop_all (by omega)]; rfl), hB⟩

/-- ints: whether the two lists are one. -/
theorem ints_any (a a' : Option Addr) (n cap n' cap' : Nat) (xs ys : List Int) (w : World) (h : RdI w a n xs) (h' : RdI w a' n' ys) :
    Calls Try.prog 13 #[.slice a n cap, .slice a' n' cap'] w fun e w' => e = .returned (.bool (decide (xs = ys))) ∧ Below w.heap.size w w' := by
  by_cases e : n = n'
  · subst e
    have := ints_eq a a' n cap cap' xs ys w h h'
    rwa [sameF_eq _ _ (by rw [h.length, h'.length])] at this
  · have := ints_len a a' n cap n' cap' w e
    have d : decide (xs = ys) = false := by
      rw [decide_eq_false_iff_not]; rintro rfl; exact e (by rw [← h.length, ← h'.length])
    rwa [d]

set_option maxHeartbeats 400000 in
theorem margins_any (a : Option Addr) (n cap : Nat) (bs : List Bool) (w : World) (h : RdB w a n bs) :
    Calls Try.prog 31 #[.slice a n cap] w fun e w' => e = .returned (.tuple #[.int .i64 (marg bs).1, .int .i64 (marg bs).2]) ∧ w = w' := by
  have hle := h.le
  have H := Lib.hid h; clear h
  go_enter Try.func31, Try.ntmps31
  go_wp2
  go_loop [2] (fun i => ∃ k : Nat, k ≤ n ∧ i = .int .i64 k ∧ Hid (leadF k (bs.drop k) = leadF 0 bs)) (fun i => n - (intOf i).toNat)
  case atStart => exact ⟨0, Nat.zero_le _, rfl, rfl⟩
  case round =>
    obtain ⟨k, hk, rfl, hR⟩ := hrel
    have key : (k < n ∧ ∃ b off, a = some ⟨b, off, none⟩ ∧ w.cell? ⟨b, off + k, none⟩ = some (.bool false) ∧ Hid (leadF (k + 1) (bs.drop (k + 1)) = leadF 0 bs)) ∨
        ((k < n → ∃ b off, a = some ⟨b, off, none⟩ ∧ w.cell? ⟨b, off + k, none⟩ = some (.bool true)) ∧ Hid (leadF 0 bs = k)) := by
      by_cases hlt : k < n
      · obtain ⟨b, off, z, rfl, hcell, hd⟩ := H.out.at k hlt
        have hr := hR.out
        rw [hd, leadF] at hr
        cases z
        · exact .inl ⟨hlt, b, off, rfl, hcell, hr⟩
        · exact .inr ⟨fun _ => ⟨b, off, rfl, hcell⟩, by rw [← hr]; rfl⟩
      · have hl := H.out.length
        exact .inr ⟨fun h => absurd h hlt, by rw [← hR.out, drop_all (by omega)]; rfl⟩
    clear hR
    rcases key with ⟨hlt, b, off, rfl, hcell, hR⟩ | ⟨hex, hR⟩
    · go_wp2
      go_round
      case rel => exact ⟨k + 1, by omega, by go_num, hR⟩
      case measure => simp [intOf]; omega
    · have tail : ∀ (aa : Option Addr), aa = a → True := fun _ _ => trivial
      clear tail
      by_cases hlt : k < n
      · obtain ⟨b, off, rfl, hcell⟩ := hex hlt
        clear hex
        go_wp2
        go_loop [3] (fun i => ∃ k : Nat, k ≤ n ∧ i = .int .i64 k ∧ Hid (leadF k (bs.reverse.drop k) = leadF 0 bs.reverse)) (fun i => n - (intOf i).toNat)
        case atStart => exact ⟨0, Nat.zero_le _, rfl, rfl⟩
        case round =>
          obtain ⟨j, hj, rfl, hS⟩ := hrel
          by_cases hlj : j < n
          · obtain ⟨b2, off2, z, e2, hcell2, hd2⟩ := H.out.at_rev j hlj
            first | cases e2 | subst e2
            have hr := hS.out
            rw [hd2, leadF] at hr
            have HS := Lib.hid hr; clear hr hd2 hS
            cases z
            · go_wp2
              go_round
              case rel => exact ⟨j + 1, by omega, by go_num, by rw [← HS.out]; rfl⟩
              case measure => simp [intOf]; omega
            · go_wp2
              go_ret2
              exact ⟨by simp only [marg, hR.out, ← HS.out]; rfl, rfl⟩
          · go_wp2
            go_ret2
            have hl := H.out.length
            exact ⟨by simp only [marg, hR.out, ← hS.out]; rw [drop_all (by simp; omega)]; rfl, rfl⟩
      · clear hex
        go_wp2
        go_loop [3] (fun i => ∃ k : Nat, k ≤ n ∧ i = .int .i64 k ∧ Hid (leadF k (bs.reverse.drop k) = leadF 0 bs.reverse)) (fun i => n - (intOf i).toNat)
        case atStart => exact ⟨0, Nat.zero_le _, rfl, rfl⟩
        case round =>
          obtain ⟨j, hj, rfl, hS⟩ := hrel
          by_cases hlj : j < n
          · obtain ⟨b2, off2, z, e2, hcell2, hd2⟩ := H.out.at_rev j hlj
            first | cases e2 | subst e2
            have hr := hS.out
            rw [hd2, leadF] at hr
            have HS := Lib.hid hr; clear hr hd2 hS
            cases z
            · go_wp2
              go_round
              case rel => exact ⟨j + 1, by omega, by go_num, by rw [← HS.out]; rfl⟩
              case measure => simp [intOf]; omega
            · go_wp2
              go_ret2
              exact ⟨by simp only [marg, hR.out, ← HS.out]; rfl, rfl⟩
          · go_wp2
            go_ret2
            have hl := H.out.length
            exact ⟨by simp only [marg, hR.out, ← hS.out]; rw [drop_all (by simp; omega)]; rfl, rfl⟩
set_option maxHeartbeats 400000 in
theorem refMargins_any (a : Option Addr) (n cap : Nat) (bs : List Bool) (w : World) (h : RdB w a n bs) :
    Calls Try.prog 35 #[.slice a n cap] w fun e w' => e = .returned (.tuple #[.int .i64 (marg bs).1, .int .i64 (marg bs).2]) ∧ w = w' := by
  have hle := h.le
  have H := Lib.hid h; clear h
  go_enter Try.func35, Try.ntmps35
  go_wp2
  go_loop [4] (fun i => ∃ k : Nat, k ≤ n ∧ i = .int .i64 k ∧ Hid (leadF k (bs.drop k) = leadF 0 bs)) (fun i => n - (intOf i).toNat)
  case atStart => exact ⟨0, Nat.zero_le _, rfl, rfl⟩
  case round =>
    obtain ⟨k, hk, rfl, hR⟩ := hrel
    have key : (k < n ∧ ∃ b off, a = some ⟨b, off, none⟩ ∧ w.cell? ⟨b, off + k, none⟩ = some (.bool false) ∧ Hid (leadF (k + 1) (bs.drop (k + 1)) = leadF 0 bs)) ∨
        ((k < n → ∃ b off, a = some ⟨b, off, none⟩ ∧ w.cell? ⟨b, off + k, none⟩ = some (.bool true)) ∧ Hid (leadF 0 bs = k)) := by
      by_cases hlt : k < n
      · obtain ⟨b, off, z, rfl, hcell, hd⟩ := H.out.at k hlt
        have hr := hR.out
        rw [hd, leadF] at hr
        cases z
        · exact .inl ⟨hlt, b, off, rfl, hcell, hr⟩
        · exact .inr ⟨fun _ => ⟨b, off, rfl, hcell⟩, by rw [← hr]; rfl⟩
      · have hl := H.out.length
        exact .inr ⟨fun h => absurd h hlt, by rw [← hR.out, drop_all (by omega)]; rfl⟩
    clear hR
    rcases key with ⟨hlt, b, off, rfl, hcell, hR⟩ | ⟨hex, hR⟩
    · go_wp2
      go_round
      case rel => exact ⟨k + 1, by omega, by go_num, hR⟩
      case measure => simp [intOf]; omega
    · have tail : ∀ (aa : Option Addr), aa = a → True := fun _ _ => trivial
      clear tail
      by_cases hlt : k < n
      · obtain ⟨b, off, rfl, hcell⟩ := hex hlt
        clear hex
        go_wp2
        go_loop [5] (fun i => ∃ k : Nat, k ≤ n ∧ i = .int .i64 k ∧ Hid (leadF k (bs.reverse.drop k) = leadF 0 bs.reverse)) (fun i => n - (intOf i).toNat)
        case atStart => exact ⟨0, Nat.zero_le _, rfl, rfl⟩
        case round =>
          obtain ⟨j, hj, rfl, hS⟩ := hrel
          by_cases hlj : j < n
          · obtain ⟨b2, off2, z, e2, hcell2, hd2⟩ := H.out.at_rev j hlj
            first | cases e2 | subst e2
            have hr := hS.out
            rw [hd2, leadF] at hr
            have HS := Lib.hid hr; clear hr hd2 hS
            cases z
            · go_wp2
              go_round
              case rel => exact ⟨j + 1, by omega, by go_num, by rw [← HS.out]; rfl⟩
              case measure => simp [intOf]; omega
            · go_wp2
              go_ret2
              exact ⟨by simp only [marg, hR.out, ← HS.out]; rfl, rfl⟩
          · go_wp2
            go_ret2
            have hl := H.out.length
            exact ⟨by simp only [marg, hR.out, ← hS.out]; rw [drop_all (by simp; omega)]; rfl, rfl⟩
      · clear hex
        go_wp2
        go_loop [5] (fun i => ∃ k : Nat, k ≤ n ∧ i = .int .i64 k ∧ Hid (leadF k (bs.reverse.drop k) = leadF 0 bs.reverse)) (fun i => n - (intOf i).toNat)
        case atStart => exact ⟨0, Nat.zero_le _, rfl, rfl⟩
        case round =>
          obtain ⟨j, hj, rfl, hS⟩ := hrel
          by_cases hlj : j < n
          · obtain ⟨b2, off2, z, e2, hcell2, hd2⟩ := H.out.at_rev j hlj
            first | cases e2 | subst e2
            have hr := hS.out
            rw [hd2, leadF] at hr
            have HS := Lib.hid hr; clear hr hd2 hS
            cases z
            · go_wp2
              go_round
              case rel => exact ⟨j + 1, by omega, by go_num, by rw [← HS.out]; rfl⟩
              case measure => simp [intOf]; omega
            · go_wp2
              go_ret2
              exact ⟨by simp only [marg, hR.out, ← HS.out]; rfl, rfl⟩
          · go_wp2
            go_ret2
            have hl := H.out.length
            exact ⟨by simp only [marg, hR.out, ← hS.out]; rw [drop_all (by simp; omega)]; rfl, rfl⟩
end Go.Proofs.Ytofedeokliljkaa
