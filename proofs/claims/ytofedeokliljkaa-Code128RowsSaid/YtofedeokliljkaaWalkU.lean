/-
  The walks of known and value of the reference of package code128, and of slices.Equal. Condition: fewer than 2^40 widths.
-/
import Derived.Test.YtofedeokliljkaaWalkT
namespace Go.Proofs.Ytofedeokliljkaa
open Go.RowKit

def knownB (c : Int) : Bool := decide (0 ≤ dataF c 0) || decide (0 ≤ dataF c 1)

set_option maxHeartbeats 800000 in
theorem known_any (c : Int) (w : World) : Calls Try.prog 39 #[.int .i64 c] w fun e w' => e = .returned (.bool (knownB c)) ∧ w = w' := by
  have h1 := data_any c 0 w (by omega) (by omega)
  have h2 := data_any c 1 w (by omega) (by omega)
  have HK : Hid (knownB c = (decide (0 ≤ dataF c 0) || decide (0 ≤ dataF c 1))) := rfl
  generalize dataF c 0 = d0 at *
  generalize dataF c 1 = d1 at *
  by_cases hd : 0 ≤ d0
  · have hb : decide (0 ≤ d0) = true := by simpa using hd
    go_enter Try.func39, Try.ntmps39
    go_wp2_with fail
    refine h1.mono ?_
    rintro e w' ⟨rfl, rfl⟩
    go_wp2
    go_ret
    exact ⟨ret_bool (by rw [HK.out, hb]; rfl), rfl⟩
  · have hb : decide (0 ≤ d0) = false := by simpa using hd
    go_enter Try.func39, Try.ntmps39
    go_wp2_with fail
    refine h1.mono ?_
    rintro e w' ⟨rfl, rfl⟩
    go_wp2_with fail
    refine h2.mono ?_
    rintro e w' ⟨rfl, rfl⟩
    go_wp2
    go_ret
    exact ⟨ret_bool (by rw [HK.out, hb]; rfl), rfl⟩

set_option maxHeartbeats 400000 in
theorem equal_len (a a' : Option Addr) (n cap n' cap' : Nat) (w : World) (h : n ≠ n') :
    Calls Try.prog 33 #[.slice a n cap, .slice a' n' cap'] w fun e w' => e = .returned (.bool false) ∧ Below w.heap.size w w' := by
  have hb : ((n : Int) != (n' : Int)) = true := by rw [bne_iff_ne]; omega
  go_enter Try.func33, Try.ntmps33
  go_wp2
  go_ret
  exact ⟨rfl, Below.refl _ _⟩

set_option maxHeartbeats 400000 in
theorem equal_eq (a a' : Option Addr) (n cap cap' : Nat) (xs ys : List Int) (w : World) (h : RdI w a n xs) (h' : RdI w a' n ys) :
    Calls Try.prog 33 #[.slice a n cap, .slice a' n cap'] w fun e w' => e = .returned (.bool (sameF xs ys)) ∧ Below w.heap.size w w' := by
  have hle := h.le
  have H := Lib.hid h; clear h
  have H' := Lib.hid h'; clear h'
  go_enter Try.func33, Try.ntmps33
  go_wp2
  go_loopw [13] (fun i wr => ∃ k : Nat, k ≤ n ∧ i = .int .i64 k ∧ Below w.heap.size w wr ∧ Hid (sameF (xs.drop k) (ys.drop k) = sameF xs ys)) (fun i _ => n - (intOf i).toNat)
  case atStart => exact ⟨0, Nat.zero_le _, rfl, Below.refl _ _, rfl⟩
  case round =>
    obtain ⟨k, hk, rfl, hB, hR⟩ := hrel
    by_cases hlt : k < n
    · obtain ⟨b, off, x, rfl, hcell, hd⟩ := (H.out.below hB).at k hlt
      obtain ⟨b', off', y, rfl, hcell', hd'⟩ := (H'.out.below hB).at k hlt
      have hr := hR.out
      rw [hd, hd', sameF] at hr
      have HR := Lib.hid hr; clear hr hd hd' hR
      go_wp2
      go_quiet (fail)
      go_wp2
      all_goals first
        | (go_ret; exact ⟨ret_bool (by rw [← HR.out, if_neg (by simp_all)]), below_drewN hB _⟩)
        | (go_roundw
           case rel => exact ⟨k + 1, by omega, by go_num, below_drewN hB _, by rw [← HR.out, if_pos (by simp_all)]; rfl⟩
           case measure => simp [intOf]; omega)
    · go_wp2
      go_ret
      have hl := H.out.length
      exact ⟨ret_bool (by rw [← hR.out, drop_all (by omega)]; rfl), hB⟩

/-- equal: whether the two lists are one. -/
theorem equal_any (a a' : Option Addr) (n cap n' cap' : Nat) (xs ys : List Int) (w : World) (h : RdI w a n xs) (h' : RdI w a' n' ys) :
    Calls Try.prog 33 #[.slice a n cap, .slice a' n' cap'] w fun e w' => e = .returned (.bool (decide (xs = ys))) ∧ Below w.heap.size w w' := by
  by_cases e : n = n'
  · subst e
    have := equal_eq a a' n cap cap' xs ys w h h'
    rwa [sameF_eq _ _ (by rw [h.length, h'.length])] at this
  · have := equal_len a a' n cap n' cap' w e
    have d : decide (xs = ys) = false := by
      rw [decide_eq_false_iff_not]; rintro rfl; exact e (by rw [← h.length, ← h'.length])
    rwa [d]

def valFrom (ws : List Int) : Nat → Nat → Int
  | 0, _ => -1
  | f + 1, v => if widL v = ws then v else valFrom ws f (v + 1)

/-- The value whose widths some widths are, or -1. -/
def valueF (ws : List Int) : Int := valFrom ws 107 0

theorem below_tr {w w1 w2 : World} (h : Below w.heap.size w w1) (k : Below w1.heap.size w1 w2) : Below w.heap.size w w2 := h.trans (k.mono h.size)

set_option maxHeartbeats 2000000 in
theorem refValue_any (a : Option Addr) (n cap : Nat) (ws : List Int) (w : World) (h : RdI w a n ws) :
    Calls Try.prog 36 #[.slice a n cap] w fun e w' => e = .returned (.int .i64 (valueF ws)) ∧ Below w.heap.size w w' := by
  have H := Lib.hid h; have HL := Lib.hid h.length; have hle := h.le; clear h
  go_enter Try.func36, Try.ntmps36
  go_wp2
  go_loopw [3] (fun x wr => ∃ v : Nat, v ≤ 107 ∧ x = .int .i64 v ∧ Below w.heap.size w wr ∧ Hid (valFrom ws (107 - v) v = valueF ws)) (fun x _ => 107 - (intOf x).toNat)
  case atStart => exact ⟨0, by omega, rfl, Below.refl _ _, rfl⟩
  case round =>
    obtain ⟨v, hv, rfl, hB, hR⟩ := hrel
    by_cases hlt : v < 107
    · have hr := hR.out
      rw [show 107 - v = (107 - (v + 1)) + 1 by omega, valFrom] at hr
      have hp := fun W => refPattern_any (v : Int) W
      have hpf : patF (v : Int) = (widL v, 0) := by unfold patF; rw [if_neg (by omega), Int.toNat_natCast]
      rw [hpf] at hp
      have HP := Lib.hid hp; have HR := Lib.hid hr; clear hp hr hR hpf
      have hwl : (widL v).length ≤ 7 := by rw [widL_len v (by omega)]; split <;> omega
      generalize widL v = P at *
      obtain ⟨wo, rfl⟩ : ∃ wo : World, wo = wr := ⟨_, rfl⟩
      go_wp2_with fail
      refine (HP.out _).mono ?_
      rintro e w1 hret
      obtain ⟨pa, pc, rfl, rP, b1⟩ := hret.open
      have hBw := below_tr hB b1
      have RP := Lib.hid rP; clear rP
      go_wp2
      go_loopw [6, 7] (fun sm x wr => ∃ (k : Nat) (sb : Bool), k ≤ P.length ∧ x = .int .i64 k ∧ sm = .bool sb ∧ Below w1.heap.size w1 wr ∧ Hid (sb = true ↔ (P.length = n ∧ P.take k = ws.take k))) (fun sm x _ => P.length - (intOf x).toNat)
      case atStart => exact ⟨0, _, by omega, rfl, rfl, Below.refl _ _, by simp [Hid]; omega⟩
      case round =>
        obtain ⟨k, sb, hk, rfl, rfl, hB1, hI⟩ := hrel
        cases sb with
        | false =>
          have hne : P ≠ ws := by
            rintro rfl
            have := hI.out.2 ⟨HL.out, rfl⟩
            cases this
          have HNE := Lib.hid hne; clear hne hI
          go_wp2
          go_roundw
          case rel => exact ⟨v + 1, by omega, by go_num, below_tr hBw hB1, by rw [← HR.out, if_neg HNE.out]; rfl⟩
          case measure => simp [intOf]; omega
        | true =>
          obtain ⟨hPn, htk⟩ := hI.out.1 rfl
          have HTK := Lib.hid htk; have HPN := Lib.hid hPn
          clear hI htk hPn
          by_cases hkp : k < P.length
          · obtain ⟨c1, o1, x, rfl, hc1, hd1⟩ := (RP.out.below hB1).at k hkp
            obtain ⟨c2, o2, y, rfl, hc2, hd2⟩ := ((H.out.below hBw).below hB1).at k (by rw [← HPN.out]; exact hkp)
            have e1 := getElem?_of_drop hd1
            have e2 := getElem?_of_drop hd2
            have hiff : ((x == y) = true ↔ (P.length = n ∧ P.take (k + 1) = ws.take (k + 1))) := by
              rw [List.take_add_one, List.take_add_one, e1, e2, HTK.out]
              simp [HPN.out]
            have HI := Lib.hid hiff
            have hkn : k < n := by rw [← HPN.out]; exact hkp
            clear hd1 hd2 e1 e2 hiff
            go_wp2
            go_quiet (fail)
            go_wp2
            go_roundw
            case rel => exact ⟨k + 1, (x == y), by omega, by go_num, rfl, below_drewN hB1 _, HI.out⟩
            case measure => simp [intOf]; omega
          · have heq : P = ws := by
              have h1 := HTK.out
              rw [List.take_of_length_le (by omega), List.take_of_length_le (by rw [HL.out, ← HPN.out]; omega)] at h1
              exact h1
            have HEQ := Lib.hid heq; clear heq
            go_wp2
            go_ret
            exact ⟨ret_int (by rw [← HR.out, if_pos HEQ.out]), below_tr hBw hB1⟩
    · go_wp2
      go_ret
      exact ⟨ret_int (by rw [← hR.out, show 107 - v = 0 by omega]; rfl), hB⟩

end Go.Proofs.Ytofedeokliljkaa
