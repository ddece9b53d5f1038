/-
  The walks of the functions of package runs and its reference that build a new slice. Condition: a slice holds fewer than 2^40 elements.
-/
import Derived.Test.YtofedeokliljkaaWalkA
namespace Go.Proofs.Ytofedeokliljkaa
open Go.RowKit

theorem info4 : (Try.prog.info? 4).map (fun i => (i.zero, i.size, i.bytes)) = some (some (.bool false), 1, 1) := by kernel_rfl
theorem info3 : (Try.prog.info? 3).map (fun i => (i.zero, i.size, i.bytes)) = some (some (.int .i64 0), 1, 8) := by kernel_rfl

theorem retB_nil (c : Int) (w : World) : RetB [] c w (.returned (.tuple #[.slice none 0 0, .int .i64 c])) w := ⟨_, rfl, World.ownsRow_nil _ _ _ _, Below.refl _ _⟩

-- GEN Modules
set_option maxHeartbeats 1600000 in
theorem modules_any (a : Option Addr) (n cap : Nat) (zs : List Int) (w : World) (h : RdI w a n zs) (hn : n ≤ 1099511627776) :
    Calls Try.prog 30 #[.slice a n cap] w (RetB (modules zs).1 (modules zs).2 w) := by
  obtain ⟨i4, hi4, hz4a, hz4b, hz4c⟩ := info_parts info4
  have hlen := h.length
  have hir := inRange_any a n cap zs w h
  by_cases h0 : n = 0
  · subst h0
    have hm : modules zs = ([], 5) := by unfold modules; rw [if_pos hlen]
    rw [hm]
    go_enter Try.func30, Try.ntmps30
    go_wp2
    go_ret2
    exact retB_nil 5 w
  have hb0 : ((n : Int) == 0) = false := beq_eq_false_iff_ne.2 (by omega)
  by_cases h2 : n % 2 = 0
  · have hm : modules zs = ([], 7) := by unfold modules; rw [if_neg (by omega), if_pos (by omega)]
    rw [hm]
    have hb2 : ((n : Int) % 2 == 0) = true := beq_iff_eq.2 (by omega)
    clear hm hlen
    go_enter Try.func30, Try.ntmps30
    go_wp2
    go_ret2
    exact retB_nil 7 w
  have hb2 : ((n : Int) % 2 == 0) = false := beq_eq_false_iff_ne.2 (by omega)
  cases hr : inR zs with
  | false =>
    have hm : modules zs = ([], 3) := by unfold modules; rw [if_neg (by omega), if_neg (by omega), if_pos hr]
    rw [hm]
    rw [hr] at hir
    clear hm hlen hr
    go_enter Try.func30, Try.ntmps30
    go_wp2_with fail
    refine hir.mono ?_
    rintro e w' ⟨rfl, rfl⟩
    go_wp2
    go_ret2
    exact retB_nil 3 w
  | true =>
    have hs0 := sumI_nonneg zs hr
    have hml := modsI_length zs 0 hr
    have hmm : modules zs = if 65536 < sumI zs then ([], 4) else (modsI 0 zs, 0) := by unfold modules; rw [if_neg (by omega), if_neg (by omega), if_neg (by simp [hr])]
    have HM := Lib.hid hmm
    have HL := Lib.hid hml
    have hle := h.le
    rw [hr] at hir
    have hR0 := Lib.hid hr
    have H := Lib.hid h
    clear hmm hml hlen hr h
    go_enter Try.func30, Try.ntmps30
    go_wp2_with fail
    refine hir.mono ?_
    rintro e w' ⟨rfl, rfl⟩
    go_wp2
    go_loop [4, 22] (fun s i => ∃ (k : Nat) (t : Int), k ≤ n ∧ i = .int .i64 k ∧ s = .int .i64 t ∧ 0 ≤ t ∧ t ≤ 65536 * k ∧ Hid (t + sumI (zs.drop k) = sumI zs) ∧ Hid (inR (zs.drop k) = true)) (fun _ i => n - (intOf i).toNat)
    case atStart => exact ⟨0, 0, Nat.zero_le _, rfl, rfl, by omega, by omega, Int.zero_add _, hR0.out⟩
    case round =>
      obtain ⟨k, t, hk, rfl, rfl, ht0, ht1, hS, hI⟩ := hrel
      by_cases hlt : k < n
      · obtain ⟨b, off, z, rfl, hcell, hd⟩ := H.out.at k hlt
        have hr := hS.out
        have hr2 := hI.out
        rw [hd, sumI] at hr
        rw [hd, inR] at hr2
        have hz : ¬ (z < 1 ∨ 65536 < z) := by intro hz; rw [if_pos hz] at hr2; cases hr2
        rw [if_neg hz] at hr2
        have HR := Lib.hid hr; have HI := Lib.hid hr2; clear hr hd hS hI hr2
        go_wp2
        go_round
        case rel => exact ⟨k + 1, t + z, by omega, by go_num, rfl, by omega, by omega, by rw [← HR.out, Int.add_assoc]; rfl, HI.out⟩
        case measure => simp [intOf]; omega
      · have hst : t = sumI zs := by
          have := hS.out
          have hl := H.out.length
          rw [drop_all (by omega)] at this
          simpa [sumI] using this
        clear hS hI
        by_cases h4 : 65536 < t
        · have hm : modules zs = ([], 4) := by rw [HM.out, if_pos (by omega)]
          have HMF := Lib.hid hm
          clear hm hst
          go_wp2
          go_ret2
          rw [HMF.out]
          exact retB_nil 4 w
        have hm : modules zs = (modsI 0 zs, 0) := by rw [HM.out, if_neg (by omega)]
        have HMF := Lib.hid hm
        have hML : (modsI 0 zs).length = t.toNat := by have := HL.out; omega
        have HT := Lib.hid hML
        clear hm hst hML
        obtain ⟨T, rfl⟩ := Int.eq_ofNat_of_zero_le ht0
        have HT' : Hid ((modsI 0 zs).length = T) := by have := HT.out; rw [Int.toNat_natCast] at this; exact this
        clear HT
        go_wp2_with (at_make; refine wpList_make_own _ rfl _ _ 32 rfl w.heap.size 4 i4 (.bool false) 1 Try.underlying32 hi4 hz4a hz4b _ _ _ T rfl rfl rfl (by rw [hz4c]; omega) (by unfold maxLen; omega) (Nat.le_refl _) ?_)
        intro w0 hown0 hgrow0
        have hB0 : Below w.heap.size w w0 := (Below.refl _ w).grown hgrow0 (Nat.le_refl _) (fun k e => by cases e)
        clear hgrow0
        go_wp2
        go_loopw [7, 36] (fun v i wr => ∃ (k : Nat) (acc : List Bool), k ≤ n ∧ i = .int .i64 k ∧ wr.ownsRow w.heap.size 4 1 v acc.length (acc.map Value.bool) ∧ Below w.heap.size w wr ∧ Hid (acc ++ modsI k (zs.drop k) = modsI 0 zs)) (fun _ i _ => n - (intOf i).toNat)
        case atStart => exact ⟨0, [], Nat.zero_le _, rfl, hown0, hB0, rfl⟩
        case round =>
          obtain ⟨k', acc, hk', rfl, hown, hB, hR⟩ := hrel
          by_cases hlt' : k' < n
          · obtain ⟨b, off, z, rfl, hcell, hd⟩ := (H.out.below hB).at k' hlt'
            have hr := hR.out
            rw [hd, modsI] at hr
            have hal : acc.length + z.toNat ≤ 65536 := by
              have := congrArg List.length hr
              have h3 := HT'.out
              simp at this; omega
            have hz63 : z ≤ 9223372036854775807 := by omega
            have HR := Lib.hid hr; have HD := Lib.hid hd; clear hr hd hR
            obtain ⟨wo, rfl⟩ : ∃ wo : World, wo = wr := ⟨_, rfl⟩
            go_wp2
            go_loopw [7, 42] (fun v j wr => ∃ (c : Nat), c ≤ z.toNat ∧ j = .int .i64 c ∧ wr.ownsRow w.heap.size 4 1 v (acc.length + c) (acc.map Value.bool ++ List.replicate c (.bool (k' % 2 == 0))) ∧ Below w.heap.size w wr) (fun _ j _ => z.toNat - (intOf j).toNat)
            case atStart => exact ⟨0, Nat.zero_le _, rfl, own_congr hown (by simp) (by simp), hB⟩
            case round =>
              obtain ⟨c, hc, rfl, hown2, hB2⟩ := hrel
              have hpar : ((k' : Int) % 2 == 0) = (k' % 2 == 0) := by rw [Bool.eq_iff_iff]; simp; omega
              by_cases hcz : c < z.toNat
              · go_wp2_with (at_builtin; refine wpList_append_own _ rfl _ _ 32 rfl w.heap.size 4 i4 (.bool false) 1 1 Try.underlying32 hi4 hz4a hz4b hz4c rfl (by decide) _ _ _ rfl (hown2.alloc _) ⟨wr.heap.size, 0, none⟩ 1 1 [.bool (k' % 2 == 0)] rfl rfl (cell_one_new _ _ _) (by simp [Value.oneCell']) ?c3 ?c4 ?c5 ?_)
                case c3 => unfold maxLen; omega
                case c4 => omega
                case c5 => have := hB2.size; simp; omega
                intro v' w1 hown' hgrow _
                have hB3 := below_app hB2 hB2.size hown2 hgrow
                clear hgrow hown2
                go_wp2
                go_roundw
                case rel => exact ⟨c + 1, by omega, by go_num, own_congr hown' (by omega) (by simp [List.replicate_succ']), hB3⟩
                case measure => simp [intOf]; omega
              · go_wp2
                go_roundw
                case rel => exact ⟨k' + 1, acc ++ List.replicate z.toNat (k' % 2 == 0), by omega, by go_num, own_congr hown2 (by simp; omega) (by simp; rw [show c = z.toNat by omega]), hB2, by rw [← HR.out]; simp [Hid]⟩
                case measure => simp [intOf]; omega
          · go_wp2
            go_ret2
            have hl := H.out.length
            have hr := hR.out
            rw [drop_all (by omega)] at hr
            simp [modsI] at hr
            subst hr
            rw [HMF.out]
            exact ⟨_, rfl, hown, hB⟩
end Go.Proofs.Ytofedeokliljkaa
