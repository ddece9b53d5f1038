/-
  The walk of the reference's Widths. Condition: a slice holds fewer than 2^40 elements.
-/
import Derived.Test.YtofedeokliljkaaWalkB
namespace Go.Proofs.Ytofedeokliljkaa
open Go.RowKit

/-- The call returned a new slice that reads as xs; nothing that was there has changed. -/
def RetL (xs : List Int) (w : World) (e : Ending) (w' : World) : Prop :=
  ∃ v, e = .returned v ∧ w'.ownsRow w.heap.size 3 1 v xs.length (xs.map (Value.int .i64)) ∧ Below w.heap.size w w'

theorem runF_length : ∀ (bs : List Bool) (c : Nat), (runF c bs).length ≤ bs.length
  | [], _ => by simp [runF]
  | [_], _ => by simp [runF]
  | x :: y :: r, c => by
    unfold runF
    split
    · have := runF_length (y :: r) (c + 1); simp at this ⊢; omega
    · have := runF_length (y :: r) 0; simp at this ⊢; omega

set_option maxHeartbeats 1600000 in
theorem refWidths_any (a : Option Addr) (n cap : Nat) (bs : List Bool) (w : World) (h : RdB w a n bs) (hn : n ≤ 1099511627776) :
    Calls Try.prog 34 #[.slice a n cap] w (RetL (widths bs) w) := by
  obtain ⟨i3, hi3, hz3a, hz3b, hz3c⟩ := info_parts info3
  have hlen := h.length
  have hm := refMargins_any a n cap bs w h
  have hcases := marg_cases bs
  have hw : widths bs = runF 0 ((bs.take (n - (marg bs).2)).drop (marg bs).1) := by unfold widths core; rw [hlen]
  have hL : (widths bs).length ≤ n := by
    have h1 := runF_length ((bs.take (n - (marg bs).2)).drop (marg bs).1) 0
    rw [hw]
    simp only [List.length_drop, List.length_take] at h1
    omega
  rw [hlen] at hcases
  generalize (marg bs).1 = l at *
  generalize (marg bs).2 = r at *
  rcases hcases with ⟨e1, e2⟩ | hlr
  · have hnil : widths bs = [] := by rw [hw, e1, List.drop_of_length_le (by simp; omega)]; rfl
    have HN := Lib.hid hnil
    rw [e1, e2] at hm
    clear hw hnil hlen hL e1 e2
    go_enter Try.func34, Try.ntmps34
    go_wp2_with fail
    refine hm.mono ?_
    rintro e w' ⟨rfl, rfl⟩
    go_wp2
    refine wp_loop_rounds 1 ?_
    rw [rounds_succ]
    go_wp2
    go_ret
    rw [HN.out]
    exact ⟨_, rfl, World.ownsRow_nil _ _ _ _, Below.refl _ _⟩
  have HL := Lib.hid hL
  obtain ⟨E, hE⟩ : ∃ E, E = n - r := ⟨_, rfl⟩
  have hEn : E ≤ n := by omega
  have hEr : (n : Int) - (r : Int) = (E : Int) := by omega
  have hlE : l < E := by omega
  have H := Lib.hid (h.take E hEn)
  rw [← hE] at hw
  generalize bs.take E = ts at *
  have HW := Lib.hid hw
  have hlen' := H.out.length
  clear hw hlen hL h hE
  have HLT := Lib.hid hlen'; clear hlen'
  go_enter Try.func34, Try.ntmps34
  go_wp2_with fail
  refine hm.mono ?_
  rintro e w' ⟨rfl, rfl⟩
  have HER := Lib.hid hEr; clear hEr
  go_wp2
  go_loopw [5, 6, 7] (fun v m j wr => ∃ (i c : Nat) (acc : List Int), l ≤ i ∧ i ≤ E ∧ c ≤ i ∧ j = .int .i64 i ∧ m = .int .i64 c ∧ wr.ownsRow w.heap.size 3 1 v acc.length (acc.map (Value.int .i64)) ∧ Below w.heap.size w wr ∧ Hid (acc ++ runF c (ts.drop i) = widths bs)) (fun _ _ j _ => E - (intOf j).toNat)
  case atStart => exact ⟨l, 0, [], Nat.le_refl _, by omega, by omega, rfl, rfl, World.ownsRow_nil _ _ _ _, Below.refl _ _, by rw [HW.out]; rfl⟩
  case round =>
    obtain ⟨i, c, acc, hli, hiE, hci, rfl, rfl, hown, hB, hR⟩ := hrel
    have hEr := HER.out
    by_cases hlt : i < E
    · obtain ⟨b, off, z, rfl, hcell, hd⟩ := (H.out.below hB).at i hlt
      have hbound : (i : Int) < (n : Int) - (r : Int) := by omega
      have hlt1 : i < n := by omega
      have hr := hR.out
      rw [hd] at hr
      by_cases hlast : i + 1 = E
      · have hbe : ((i : Int) + 1 == (n : Int) - (r : Int)) = true := beq_iff_eq.2 (by omega)
        have hall : ts.drop (i + 1) = [] := drop_all (by have := HLT.out; omega)
        rw [hall] at hr
        have hr' : acc ++ [(c : Int) + 1] = widths bs := by rw [← hr]; rfl
        have hal : acc.length + 1 ≤ n := by have := HL.out; rw [← hr'] at this; simpa using this
        have HR := Lib.hid hr'; have HLAST := Lib.hid hlast; have HALL := Lib.hid hall; clear hr hr' hd hR hEr hlast hall
        go_wp2
        go_quiet (fail)
        go_wp2_with (at_builtin; refine wpList_append_own _ rfl _ _ 22 rfl w.heap.size 3 i3 (.int .i64 0) 1 8 Try.underlying22 hi3 hz3a hz3b hz3c rfl (by decide) _ _ _ rfl ((own_drewN hown nq).alloc _) ⟨wr.heap.size, 0, none⟩ 1 1 [.int .i64 ((c : Int) + 1)] rfl rfl (cell_one_new _ _ _) (by simp [Value.oneCell']) ?c3 ?c4 ?c5 ?_)
        case c3 => unfold maxLen; omega
        case c4 => omega
        case c5 => have := hB.size; simp; omega
        intro v' w1 hown' hgrow _
        have hB3 := below_app (below_drewN hB nq) hB.size (own_drewN hown nq) hgrow
        clear hgrow hown
        go_wp2
        go_roundw
        case rel => exact ⟨i + 1, 0, acc ++ [(c : Int) + 1], by omega, by have := HLAST.out; omega, by omega, by go_num, rfl, own_congr hown' (by simp) (by simp), hB3, by rw [HALL.out]; simpa [runF, Hid] using HR.out⟩
        case measure => simp [intOf]; omega
      · have hbe : ((i : Int) + 1 == (n : Int) - (r : Int)) = false := beq_eq_false_iff_ne.2 (by omega)
        have hlt2 : i + 1 < E := by omega
        have hlt3 : i + 1 < n := by omega
        obtain ⟨b', off', z', e', hcell', hd'⟩ := (H.out.below hB).at (i + 1) hlt2
        cases e'
        rw [hd', runF, ← hd'] at hr
        by_cases hz : z = z'
        · rw [if_pos hz] at hr
          subst hz
          have HR := Lib.hid hr; clear hr hd hd' hR hEr hlast
          go_wp2
          go_quiet (fail)
          go_wp2
          go_roundw
          case rel => exact ⟨i + 1, c + 1, acc, by omega, by omega, by omega, by go_num, by go_num, own_drewN hown _, below_drewN hB _, HR.out⟩
          case measure => simp [intOf]; omega
        · rw [if_neg hz] at hr
          have hal : acc.length + 1 ≤ n := by have := HL.out; rw [← hr] at this; simp at this; omega
          have hzz : (!(z' == z)) = true := by cases z <;> cases z' <;> simp_all
          have HR := Lib.hid hr; clear hr hd hd' hR hEr hlast hz
          go_wp2
          go_quiet (fail)
          go_wp2_with (at_builtin; refine wpList_append_own _ rfl _ _ 22 rfl w.heap.size 3 i3 (.int .i64 0) 1 8 Try.underlying22 hi3 hz3a hz3b hz3c rfl (by decide) _ _ _ rfl ((own_drewN hown nq).alloc _) ⟨wr.heap.size, 0, none⟩ 1 1 [.int .i64 ((c : Int) + 1)] rfl rfl (cell_one_new _ _ _) (by simp [Value.oneCell']) ?c3 ?c4 ?c5 ?_)
          case c3 => unfold maxLen; omega
          case c4 => omega
          case c5 => have := hB.size; simp; omega
          intro v' w1 hown' hgrow _
          have hB3 := below_app (below_drewN hB nq) hB.size (own_drewN hown nq) hgrow
          clear hgrow hown
          go_wp2
          go_roundw
          case rel => exact ⟨i + 1, 0, acc ++ [(c : Int) + 1], by omega, by omega, by omega, by go_num, rfl, own_congr hown' (by simp) (by simp), hB3, by simpa [Hid] using HR.out⟩
          case measure => simp [intOf]; omega
    · have hge : ¬ (i : Int) < (n : Int) - (r : Int) := by omega
      clear hEr
      go_wp2
      go_ret
      have hr := hR.out
      rw [drop_all (by have := HLT.out; omega)] at hr
      rw [← hr]
      simp only [runF, List.append_nil]
      exact ⟨_, rfl, hown, hB⟩

end Go.Proofs.Ytofedeokliljkaa
