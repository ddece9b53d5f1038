/-
  The walks of Stretch and Shrink and of their references. Condition: a slice holds fewer than 2^40 elements.
-/
import Derived.Test.YtcihombiijjndaaWalkB
namespace Go.Proofs.Ytcihombiijjndaa
open Go.RowKit

set_option maxHeartbeats 1600000 in
theorem stretch_any (a : Option Addr) (n cap : Nat) (bs : List Bool) (k : Int) (w : World) (h : RdB w a n bs) (hn : n ≤ 1099511627776) (hk63 : k ≤ 9223372036854775807) :
    Calls Try.prog 21 #[.slice a n cap, .int .i64 k] w (RetB (stretch bs k).1 (stretch bs k).2 w) := by
  obtain ⟨i4, hi4, hz4a, hz4b, hz4c⟩ := info_parts info4
  have hlen := h.length
  by_cases hk : k < 1
  · have hm : stretch bs k = ([], 3) := by unfold stretch; rw [if_pos hk]
    rw [hm]
    clear hm hlen
    go_enter Try.func21, Try.ntmps21
    go_wp2
    go_ret2
    exact retB_nil 3 w
  have hk1 : 1 ≤ k := by omega
  by_cases hc : 0 < bs.length ∧ 65536 / (bs.length : Int) < k
  · have hm : stretch bs k = ([], 4) := by unfold stretch; rw [if_neg hk, if_pos hc]
    rw [hm]
    rw [hlen] at hc
    obtain ⟨hc1, hc2⟩ := hc
    clear hm hlen
    go_enter Try.func21, Try.ntmps21
    go_wp2
    go_ret2
    exact retB_nil 4 w
  have hbd := stretch_bound bs k hk1 hc
  have hm : stretch bs k = (strF k.toNat bs, 0) := by unfold stretch; rw [if_neg hk, if_neg hc]
  rw [hm]
  obtain ⟨q, rfl⟩ := Int.eq_ofNat_of_zero_le (show 0 ≤ k by omega)
  rw [Int.toNat_natCast] at *
  have hle := h.le
  have H := Lib.hid h
  by_cases h00 : n = 0
  · subst h00
    obtain rfl : bs = [] := List.length_eq_zero_iff.1 hlen
    clear hm hc hlen hbd h
    go_enter Try.func21, Try.ntmps21
    go_wp2
    refine wp_loop_rounds 1 ?_
    rw [rounds_succ]
    go_wp2
    go_ret2
    exact retB_nil 0 w
  have hn0 : 0 < n := by omega
  have hq : (q : Int) ≤ 65536 / (n : Int) := by rw [hlen] at hc; omega
  clear hm hlen h hc
  go_enter Try.func21, Try.ntmps21
  go_wp2
  go_loopw [6, 23] (fun v j wr => ∃ (i : Nat) (acc : List Bool), i ≤ bs.length ∧ j = .int .i64 i ∧ wr.ownsRow w.heap.size 4 1 v acc.length (acc.map Value.bool) ∧ Below w.heap.size w wr ∧ Hid (acc ++ strF q (bs.drop i) = strF q bs)) (fun _ j _ => bs.length - (intOf j).toNat)
  case atStart => exact ⟨0, [], Nat.zero_le _, rfl, World.ownsRow_nil _ _ _ _, Below.refl _ _, rfl⟩
  case round =>
    obtain ⟨i, acc, hi, rfl, hown, hB, hR⟩ := hrel
    have hl := H.out.length
    by_cases hlt' : i < bs.length
    · have hlt : i < n := by omega
      have hi63 : (i : Int) ≤ 140737488355328 := by omega
      obtain ⟨b, off, z, rfl, hcell, hd⟩ := (H.out.below hB).at i (by omega)
      have hr := hR.out
      rw [hd, strF] at hr
      have hal : acc.length + q ≤ 65536 := by
        have := congrArg List.length hr
        simp at this; omega
      have HR := Lib.hid hr; have HD := Lib.hid hd; have HLB := Lib.hid hl; clear hr hd hR hl
      obtain ⟨wo, rfl⟩ : ∃ wo : World, wo = wr := ⟨_, rfl⟩
      go_wp2
      go_loopw [6, 28] (fun v j wr => ∃ (c : Nat), c ≤ q ∧ j = .int .i64 c ∧ wr.ownsRow w.heap.size 4 1 v (acc.length + c) (acc.map Value.bool ++ List.replicate c (.bool z)) ∧ Below w.heap.size w wr) (fun _ j _ => q - (intOf j).toNat)
      case atStart => exact ⟨0, Nat.zero_le _, rfl, own_congr hown (by simp) (by simp), hB⟩
      case round =>
        obtain ⟨c, hc, rfl, hown2, hB2⟩ := hrel
        have tok : True := trivial
        by_cases hcz : c < q
        · go_wp2_with (at_builtin; refine wpList_append_own _ rfl _ _ 25 rfl w.heap.size 4 i4 (.bool false) 1 1 Try.underlying25 hi4 hz4a hz4b hz4c rfl (by decide) _ _ _ rfl (hown2.alloc _) ⟨wr.heap.size, 0, none⟩ 1 1 [.bool z] rfl rfl (cell_one_new _ _ _) (by simp [Value.oneCell']) ?c3 ?c4 ?c5 ?_)
          case c3 => unfold maxLen; omega
          case c4 => omega
          case c5 => have := hB2.size; simp; omega
          intro v' w1 hown' hgrow _
          have hB3 := below_app hB2 hB2.size hown2 hgrow
          clear hgrow hown2
          go_wp2
          go_roundw
          case rel => exact ⟨c + 1, by omega, by go_num, own_congr hown' (by omega) (by simp [List.replicate_succ']), hB3⟩
          case measure => simp [intOf]; omega
        · go_wp2
          go_roundw
          case rel => exact ⟨i + 1, acc ++ List.replicate q z, by omega, by go_num, own_congr hown2 (by simp; omega) (by simp; rw [show c = q by omega]), hB2, by rw [← HR.out]; simp [Hid]⟩
          case measure => simp [intOf]; omega
    · have hge : ¬ i < n := by omega
      have hge0 : ¬ (i : Int) < (n : Int) := by omega
      have HLB := Lib.hid hl; clear hl
      go_wp2
      go_ret2
      have hr := hR.out
      rw [drop_all (by omega)] at hr
      simp [strF] at hr
      subst hr
      exact ⟨_, rfl, hown, hB⟩

set_option maxHeartbeats 1600000 in
theorem refStretch_any (a : Option Addr) (n cap : Nat) (bs : List Bool) (k : Int) (w : World) (h : RdB w a n bs) (hn : n ≤ 1099511627776) (hk63 : k ≤ 9223372036854775807) :
    Calls Try.prog 22 #[.slice a n cap, .int .i64 k] w (RetB (stretch bs k).1 (stretch bs k).2 w) := by
  obtain ⟨i4, hi4, hz4a, hz4b, hz4c⟩ := info_parts info4
  have hlen := h.length
  by_cases hk : k < 1
  · have hm : stretch bs k = ([], 3) := by unfold stretch; rw [if_pos hk]
    rw [hm]
    clear hm hlen
    go_enter Try.func22, Try.ntmps22
    go_wp2
    go_ret2
    exact retB_nil 3 w
  have hk1 : 1 ≤ k := by omega
  by_cases hc : 0 < bs.length ∧ 65536 / (bs.length : Int) < k
  · have hm : stretch bs k = ([], 4) := by unfold stretch; rw [if_neg hk, if_pos hc]
    rw [hm]
    rw [hlen] at hc
    obtain ⟨hc1, hc2⟩ := hc
    clear hm hlen
    go_enter Try.func22, Try.ntmps22
    go_wp2
    go_ret2
    exact retB_nil 4 w
  have hbd := stretch_bound bs k hk1 hc
  have hm : stretch bs k = (strF k.toNat bs, 0) := by unfold stretch; rw [if_neg hk, if_neg hc]
  rw [hm]
  obtain ⟨q, rfl⟩ := Int.eq_ofNat_of_zero_le (show 0 ≤ k by omega)
  rw [Int.toNat_natCast] at *
  have hle := h.le
  have H := Lib.hid h
  by_cases h00 : n = 0
  · subst h00
    obtain rfl : bs = [] := List.length_eq_zero_iff.1 hlen
    clear hm hc hlen hbd h
    go_enter Try.func22, Try.ntmps22
    go_wp2
    refine wp_loop_rounds 1 ?_
    rw [rounds_succ]
    go_wp2
    go_ret2
    exact retB_nil 0 w
  have hn0 : 0 < n := by omega
  have hq : (q : Int) ≤ 65536 / (n : Int) := by rw [hlen] at hc; omega
  clear hm hlen h hc
  go_enter Try.func22, Try.ntmps22
  go_wp2
  go_loopw [6, 7] (fun v j wr => ∃ (i : Nat) (acc : List Bool), i ≤ bs.length ∧ j = .int .i64 i ∧ wr.ownsRow w.heap.size 4 1 v acc.length (acc.map Value.bool) ∧ Below w.heap.size w wr ∧ Hid (acc ++ strF q (bs.drop i) = strF q bs)) (fun _ j _ => bs.length - (intOf j).toNat)
  case atStart => exact ⟨0, [], Nat.zero_le _, rfl, World.ownsRow_nil _ _ _ _, Below.refl _ _, rfl⟩
  case round =>
    obtain ⟨i, acc, hi, rfl, hown, hB, hR⟩ := hrel
    have hl := H.out.length
    by_cases hlt' : i < bs.length
    · have hlt : i < n := by omega
      have hi63 : (i : Int) ≤ 140737488355328 := by omega
      obtain ⟨b, off, z, rfl, hcell, hd⟩ := (H.out.below hB).at i (by omega)
      have hr := hR.out
      rw [hd, strF] at hr
      have hal : acc.length + q ≤ 65536 := by
        have := congrArg List.length hr
        simp at this; omega
      have HR := Lib.hid hr; have HD := Lib.hid hd; have HLB := Lib.hid hl; clear hr hd hR hl
      obtain ⟨wo, rfl⟩ : ∃ wo : World, wo = wr := ⟨_, rfl⟩
      go_wp2
      go_loopw [6, 8] (fun v j wr => ∃ (c : Nat), c ≤ q ∧ j = .int .i64 c ∧ wr.ownsRow w.heap.size 4 1 v (acc.length + c) (acc.map Value.bool ++ List.replicate c (.bool z)) ∧ Below w.heap.size w wr) (fun _ j _ => q - (intOf j).toNat)
      case atStart => exact ⟨0, Nat.zero_le _, rfl, own_congr hown (by simp) (by simp), hB⟩
      case round =>
        obtain ⟨c, hc, rfl, hown2, hB2⟩ := hrel
        have hcell2 : wr.cell? ⟨b, off + i, none⟩ = some (.bool z) := ((H.out.below hB2).cellI i hlt HD.out)
        by_cases hcz : c < q
        · go_wp2_with (at_builtin; refine wpList_append_own _ rfl _ _ 25 rfl w.heap.size 4 i4 (.bool false) 1 1 Try.underlying25 hi4 hz4a hz4b hz4c rfl (by decide) _ _ _ rfl (hown2.alloc _) ⟨wr.heap.size, 0, none⟩ 1 1 [.bool z] rfl rfl (cell_one_new _ _ _) (by simp [Value.oneCell']) ?c3 ?c4 ?c5 ?_)
          case c3 => unfold maxLen; omega
          case c4 => omega
          case c5 => have := hB2.size; simp; omega
          intro v' w1 hown' hgrow _
          have hB3 := below_app hB2 hB2.size hown2 hgrow
          clear hgrow hown2
          go_wp2
          go_roundw
          case rel => exact ⟨c + 1, by omega, by go_num, own_congr hown' (by omega) (by simp [List.replicate_succ']), hB3⟩
          case measure => simp [intOf]; omega
        · go_wp2
          go_roundw
          case rel => exact ⟨i + 1, acc ++ List.replicate q z, by omega, by go_num, own_congr hown2 (by simp; omega) (by simp; rw [show c = q by omega]), hB2, by rw [← HR.out]; simp [Hid]⟩
          case measure => simp [intOf]; omega
    · have hge : ¬ i < n := by omega
      have hge0 : ¬ (i : Int) < (n : Int) := by omega
      have HLB := Lib.hid hl; clear hl
      go_wp2
      go_ret2
      have hr := hR.out
      rw [drop_all (by omega)] at hr
      simp [strF] at hr
      subst hr
      exact ⟨_, rfl, hown, hB⟩

end Go.Proofs.Ytcihombiijjndaa
