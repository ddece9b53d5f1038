/-
  The walks of Shrink and of its reference. Condition: a slice holds fewer than 2^40 elements.
-/
import Derived.Test.YtcihombiijjndaaWalkB
namespace Go.Proofs.Ytcihombiijjndaa
open Go.RowKit

set_option maxHeartbeats 1600000 in
theorem shrink_any (a : Option Addr) (n cap : Nat) (bs : List Bool) (k : Int) (w : World) (h : RdB w a n bs) (hn : n ≤ 1099511627776) (hk63 : k ≤ 9223372036854775807) :
    Calls Try.prog 23 #[.slice a n cap, .int .i64 k] w (RetB (shrink bs k).1 (shrink bs k).2 w) := by
  obtain ⟨i4, hi4, hz4a, hz4b, hz4c⟩ := info_parts info4
  have hlen := h.length
  by_cases hk : k < 1
  · have hm : shrink bs k = ([], 3) := by unfold shrink; rw [if_pos hk]
    rw [hm]
    clear hm hlen
    go_enter Try.func23, Try.ntmps23
    go_wp2
    go_ret2
    exact retB_nil 3 w
  have hk1 : 1 ≤ k := by omega
  by_cases hc : (n : Int) % k ≠ 0
  · have hm : shrink bs k = ([], 7) := by unfold shrink; rw [if_neg hk, if_pos (by rw [hlen]; exact hc)]
    rw [hm]
    have hc' : ((n : Int) % k != 0) = true := by rw [bne_iff_ne]; exact hc
    clear hm hlen hc
    go_enter Try.func23, Try.ntmps23
    go_wp2
    go_ret2
    exact retB_nil 7 w
  have hm : shrink bs k = shrF k 0 [] bs := by unfold shrink; rw [if_neg hk, if_neg (by rw [hlen]; exact hc)]
  rw [hm]
  have hc' : ((n : Int) % k != 0) = false := by simpa using hc
  have H := Lib.hid h
  clear hm hlen h hc
  go_enter Try.func23, Try.ntmps23
  go_wp2
  go_loopw [6, 18] (fun v j wr => ∃ (i : Nat) (acc : List Bool), i ≤ n ∧ j = .int .i64 i ∧ wr.ownsRow w.heap.size 4 1 v acc.length (acc.map Value.bool) ∧ Below w.heap.size w wr ∧ (0 < i → acc ≠ []) ∧ acc.length ≤ i ∧ Hid (shrF k i acc (bs.drop i) = shrF k 0 [] bs)) (fun _ j _ => n - (intOf j).toNat)
  case atStart => exact ⟨0, [], Nat.zero_le _, rfl, World.ownsRow_nil _ _ _ _, Below.refl _ _, fun h => by omega, by simp, rfl⟩
  case round =>
    obtain ⟨i, acc, hi, rfl, hown, hB, hne, hali, hR⟩ := hrel
    by_cases hlt : i < n
    · obtain ⟨b, off, z, rfl, hcell, hd⟩ := (H.out.below hB).at i hlt
      have hr := hR.out
      rw [hd, shrF] at hr
      have HR := Lib.hid hr; have HD := Lib.hid hd; clear hr hd hR
      by_cases hmod : (i : Int) % k = 0
      · have hmb : ((i : Int) % k == 0) = true := by simpa using hmod
        have HMOD := Lib.hid hmod; clear hmod
        have hmod := HMOD; clear HMOD
        have hali' : (acc ++ [z]).length ≤ i + 1 := by simp; omega
        go_wp2_with (at_builtin; refine wpList_append_own _ rfl _ _ 25 rfl w.heap.size 4 i4 (.bool false) 1 1 Try.underlying25 hi4 hz4a hz4b hz4c rfl (by decide) _ _ _ rfl (hown.alloc _) ⟨wr.heap.size, 0, none⟩ 1 1 [.bool z] rfl rfl (cell_one_new _ _ _) (by simp [Value.oneCell']) ?c3 ?c4 ?c5 ?_)
        case c3 => unfold maxLen; omega
        case c4 => omega
        case c5 => have := hB.size; simp; omega
        intro v' w1 hown' hgrow _
        have hB3 := below_app hB hB.size hown hgrow
        clear hgrow hown
        go_wp2
        go_roundw
        case rel => exact ⟨i + 1, acc ++ [z], by omega, by go_num, own_congr hown' (by simp) (by simp), hB3, fun _ => by simp, hali', by rw [← HR.out, if_pos hmod.out]; rfl⟩
        case measure => simp [intOf]; omega
      · have hmb : ((i : Int) % k == 0) = false := by simpa using hmod
        have hi0 : 0 < i := by
          rcases Nat.eq_zero_or_pos i with rfl | h
          · simp at hmod
          · exact h
        have HMOD := Lib.hid hmod; clear hmod
        have hne' := hne hi0
        have hap : 0 < acc.length := List.length_pos_iff.2 hne'
        clear hne
        obtain ⟨a7, c7, rfl, hrd7⟩ := ownsRow_rd hown (by omega)
        obtain ⟨b7, off7, rfl, hcell7⟩ := hrd7.cell (acc.length - 1) (by omega)
        have hlast := map_last Value.bool acc hne'
        rw [hlast] at hcell7
        have hgl : acc.getLast? = some (acc.getLast hne') := List.getLast?_eq_some_getLast hne'
        have hr := HR.out
        rw [if_neg HMOD.out, hgl] at hr
        have HR2 := Lib.hid hr; clear hr HR hgl hlast hrd7
        generalize acc.getLast hne' = y at *
        by_cases hy : y = z
        · subst hy
          have hzz : (y != y) = false := by simp
          go_wp2
          skip
          go_roundw
          case rel => exact ⟨i + 1, acc, by omega, by go_num, hown, hB, fun _ => hne', by omega, by rw [← HR2.out]; simp [Hid]⟩
          case measure => simp [intOf]; omega
        · have hzz : (!(z == y)) = true := by cases z <;> cases y <;> simp_all
          have HY := Lib.hid hy; clear hy
          go_wp2
          skip
          go_ret2
          rw [← HR2.out, if_neg (by simpa using HY.out)]
          exact ⟨_, rfl, World.ownsRow_nil _ _ _ _, hB⟩
    · go_wp2
      go_ret2
      have hl := H.out.length
      have hr := hR.out
      rw [drop_all (by omega), shrF] at hr
      rw [← hr]
      exact ⟨_, rfl, hown, hB⟩

set_option maxHeartbeats 1600000 in
theorem refShrink_any (a : Option Addr) (n cap : Nat) (bs : List Bool) (k : Int) (w : World) (h : RdB w a n bs) (hn : n ≤ 1099511627776) (hk63 : k ≤ 9223372036854775807) :
    Calls Try.prog 24 #[.slice a n cap, .int .i64 k] w (RetB (shrink bs k).1 (shrink bs k).2 w) := by
  obtain ⟨i4, hi4, hz4a, hz4b, hz4c⟩ := info_parts info4
  have hlen := h.length
  by_cases hk : k < 1
  · have hm : shrink bs k = ([], 3) := by unfold shrink; rw [if_pos hk]
    rw [hm]
    clear hm hlen
    go_enter Try.func24, Try.ntmps24
    go_wp2
    go_ret2
    exact retB_nil 3 w
  have hk1 : 1 ≤ k := by omega
  by_cases hc : (n : Int) % k ≠ 0
  · have hm : shrink bs k = ([], 7) := by unfold shrink; rw [if_neg hk, if_pos (by rw [hlen]; exact hc)]
    rw [hm]
    have hc' : ((n : Int) % k != 0) = true := by rw [bne_iff_ne]; exact hc
    clear hm hlen hc
    go_enter Try.func24, Try.ntmps24
    go_wp2
    go_ret2
    exact retB_nil 7 w
  have hm : shrink bs k = shrF k 0 [] bs := by unfold shrink; rw [if_neg hk, if_neg (by rw [hlen]; exact hc)]
  rw [hm]
  have hc' : ((n : Int) % k != 0) = false := by simpa using hc
  have H := Lib.hid h
  clear hm hlen h hc
  go_enter Try.func24, Try.ntmps24
  go_wp2
  go_loopw [6, 7] (fun v j wr => ∃ (i : Nat) (acc : List Bool), i ≤ n ∧ j = .int .i64 i ∧ wr.ownsRow w.heap.size 4 1 v acc.length (acc.map Value.bool) ∧ Below w.heap.size w wr ∧ (0 < i → acc ≠ []) ∧ acc.length ≤ i ∧ Hid (shrF k i acc (bs.drop i) = shrF k 0 [] bs)) (fun _ j _ => n - (intOf j).toNat)
  case atStart => exact ⟨0, [], Nat.zero_le _, rfl, World.ownsRow_nil _ _ _ _, Below.refl _ _, fun h => by omega, by simp, rfl⟩
  case round =>
    obtain ⟨i, acc, hi, rfl, hown, hB, hne, hali, hR⟩ := hrel
    by_cases hlt : i < n
    · obtain ⟨b, off, z, rfl, hcell, hd⟩ := (H.out.below hB).at i hlt
      have hr := hR.out
      rw [hd, shrF] at hr
      have HR := Lib.hid hr; have HD := Lib.hid hd; clear hr hd hR
      by_cases hmod : (i : Int) % k = 0
      · have hmb : ((i : Int) % k == 0) = true := by simpa using hmod
        have HMOD := Lib.hid hmod; clear hmod
        have hmod := HMOD; clear HMOD
        have hali' : (acc ++ [z]).length ≤ i + 1 := by simp; omega
        go_wp2_with (at_builtin; refine wpList_append_own _ rfl _ _ 25 rfl w.heap.size 4 i4 (.bool false) 1 1 Try.underlying25 hi4 hz4a hz4b hz4c rfl (by decide) _ _ _ rfl (hown.alloc _) ⟨wr.heap.size, 0, none⟩ 1 1 [.bool z] rfl rfl (cell_one_new _ _ _) (by simp [Value.oneCell']) ?c3 ?c4 ?c5 ?_)
        case c3 => unfold maxLen; omega
        case c4 => omega
        case c5 => have := hB.size; simp; omega
        intro v' w1 hown' hgrow _
        have hB3 := below_app hB hB.size hown hgrow
        clear hgrow hown
        have hcell3 : w1.cell? ⟨b, off + i, none⟩ = some (.bool z) := ((H.out.below hB3).cellI i hlt HD.out)
        obtain ⟨a7, c7, rfl, hrd7⟩ := ownsRow_rd hown' (by omega)
        obtain ⟨b7, off7, rfl, hcell7⟩ := hrd7.cell acc.length (by omega)
        have hlast : (acc.map Value.bool ++ [Value.bool z]).getD acc.length undef = .bool z := by simp
        rw [hlast] at hcell7
        have hzz : (z != z) = false := by simp
        clear hlast hrd7
        go_wp2
        go_quiet (fail)
        go_wp2
        go_roundw
        case rel => exact ⟨i + 1, acc ++ [z], by omega, by go_num, own_congr (own_drewN hown' _) (by simp) (by simp), below_drewN hB3 _, fun _ => by simp, hali', by rw [← HR.out, if_pos hmod.out]; rfl⟩
        case measure => simp [intOf]; omega
      · have hmb : ((i : Int) % k == 0) = false := by simpa using hmod
        have hi0 : 0 < i := by
          rcases Nat.eq_zero_or_pos i with rfl | h
          · simp at hmod
          · exact h
        have HMOD := Lib.hid hmod; clear hmod
        have hne' := hne hi0
        have hap : 0 < acc.length := List.length_pos_iff.2 hne'
        clear hne
        obtain ⟨a7, c7, rfl, hrd7⟩ := ownsRow_rd hown (by omega)
        obtain ⟨b7, off7, rfl, hcell7⟩ := hrd7.cell (acc.length - 1) (by omega)
        have hlast := map_last Value.bool acc hne'
        rw [hlast] at hcell7
        have hgl : acc.getLast? = some (acc.getLast hne') := List.getLast?_eq_some_getLast hne'
        have hr := HR.out
        rw [if_neg HMOD.out, hgl] at hr
        have HR2 := Lib.hid hr; clear hr HR hgl hlast hrd7
        generalize acc.getLast hne' = y at *
        by_cases hy : y = z
        · subst hy
          have hzz : (y != y) = false := by simp
          go_wp2
          go_quiet (fail)
          go_wp2
          go_roundw
          case rel => exact ⟨i + 1, acc, by omega, by go_num, (own_drewN hown _), below_drewN hB _, fun _ => hne', by omega, by rw [← HR2.out]; simp [Hid]⟩
          case measure => simp [intOf]; omega
        · have hzz : (!(z == y)) = true := by cases z <;> cases y <;> simp_all
          have HY := Lib.hid hy; clear hy
          go_wp2
          go_quiet (fail)
          go_wp2
          go_ret2
          rw [← HR2.out, if_neg (by simpa using HY.out)]
          exact ⟨_, rfl, World.ownsRow_nil _ _ _ _, below_drewN hB _⟩
    · go_wp2
      go_ret2
      have hl := H.out.length
      have hr := hR.out
      rw [drop_all (by omega), shrF] at hr
      rw [← hr]
      exact ⟨_, rfl, hown, hB⟩

end Go.Proofs.Ytcihombiijjndaa
