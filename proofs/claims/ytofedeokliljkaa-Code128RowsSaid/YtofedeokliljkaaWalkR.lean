/-
  The walk of Chars of package code128. Condition: fewer than 2^40 values.
-/
import Derived.Test.YtofedeokliljkaaWalkQ
import Derived.IntWalk
import Derived.Deep.RegionWith
namespace Go.Proofs.Ytofedeokliljkaa
open Go.RowKit

def chkL (l : List Int) : Int := chkF 0 (l.getD 0 0) l

def charsF (vs : List Int) : List Int × Int :=
  if inV 106 vs = false then ([], 3) else if vs.length < 3 then ([], 7) else if vs.getD 0 0 < 103 ∨ 105 < vs.getD 0 0 then ([], 19)
  else if vs.getD (vs.length - 1) 0 ≠ 106 then ([], 20) else if vs.getD (vs.length - 2) 0 ≠ chkL (vs.take (vs.length - 2)) then ([], 8)
  else intF (vs.getD 0 0 - 101) [] ((vs.take (vs.length - 2)).drop 1)

theorem drop_getD' {zs r : List Int} {i : Nat} {z : Int} (h : zs.drop i = z :: r) : zs.getD i 0 = z := by
  rw [List.getD_eq_getElem?_getD, getElem?_of_drop h]; rfl

theorem Rd.sub {α : Type} {f : α → Value} {w : World} {b off n : Nat} {zs : List α} (h : Rd w (some ⟨b, off, none⟩) n (zs.map f)) (l m : Nat) (hlm : l + m ≤ n) : Rd w (some ⟨b, off + l, none⟩) m (((zs.drop l).take m).map f) := by
  have hl := h.length
  refine ⟨by simp; omega, by have := h.le; omega, fun k hk => ⟨b, off + l, rfl, ?_⟩⟩
  obtain ⟨b', off', e, hc⟩ := h.cell (l + k) (by omega)
  cases e
  rw [Nat.add_assoc, hc]
  have h1 : l + k < zs.length := by omega
  simp [hk]

set_option maxRecDepth 100000 in
set_option maxHeartbeats 4000000 in
theorem chars_any (a : Option Addr) (n cap : Nat) (vs : List Int) (w : World) (h : RdI w a n vs) (hn : n ≤ 1099511627776) (hcap : n ≤ cap) (hcap2 : cap ≤ 9223372036854775807) :
    Calls Try.prog 11 #[.slice a n cap] w (RetI (charsF vs).1 (charsF vs).2 w) := by
  have hlen := h.length
  have H := Lib.hid h; have HL := Lib.hid hlen; clear h hlen
  go_enter Try.func11, Try.ntmps11
  go_wp2
  go_loop [9] (fun i => ∃ (k : Nat), k ≤ n ∧ i = .int .i64 k ∧ Hid (inV 106 (vs.drop k) = inV 106 vs)) (fun i => n - (intOf i).toNat)
  case atStart => exact ⟨0, by omega, rfl, rfl⟩
  case round =>
    obtain ⟨k, hk, rfl, hR⟩ := hrel
    by_cases hlt : k < n
    · obtain ⟨b', off', y, rfl, hcell, hd⟩ := H.out.at k hlt
      have hr := hR.out
      rw [hd, inV] at hr
      have HR := Lib.hid hr; clear hr hd hR
      go_wp2
      all_goals first
        | (go_ret2
           have hbad : charsF vs = ([], 3) := by
             unfold charsF
             rw [if_pos (by rw [← HR.out, if_pos (by omega)])]
           rw [hbad]
           exact retI_nil 3 _ _ (Below.refl _ _))
        | (go_round
           case rel => exact ⟨k + 1, by omega, by go_num, by rw [← HR.out, if_neg (by omega)]; rfl⟩
           case measure => simp [intOf]; omega)
    · have hl := HL.out
      have hall : inV 106 vs = true := by rw [← hR.out, drop_all (by omega)]; rfl
      have hcf : charsF vs = if vs.length < 3 then ([], 7) else if vs.getD 0 0 < 103 ∨ 105 < vs.getD 0 0 then ([], 19)
          else if vs.getD (vs.length - 1) 0 ≠ 106 then ([], 20) else if vs.getD (vs.length - 2) 0 ≠ chkL (vs.take (vs.length - 2)) then ([], 8)
          else intF (vs.getD 0 0 - 101) [] ((vs.take (vs.length - 2)).drop 1) := by unfold charsF; rw [if_neg (by rw [hall]; simp)]
      rw [hl] at hcf
      have hmem := inV_mem hall
      clear hR hl hall
      by_cases h3 : n < 3
      · rw [if_pos h3] at hcf
        have HC := Lib.hid hcf; clear hcf hmem
        go_wp2
        go_ret2
        rw [HC.out]
        exact retI_nil 7 _ _ (Below.refl _ _)
      rw [if_neg h3] at hcf
      obtain ⟨b, off, v0, rfl, hc0, hd0⟩ := H.out.at 0 (by omega)
      obtain ⟨b1, off1, vl, e1, hcl, hdl⟩ := H.out.at (n - 1) (by omega)
      cases e1
      obtain ⟨b2, off2, vc, e2, hcc, hdc⟩ := H.out.at (n - 2) (by omega)
      cases e2
      rw [drop_getD' hd0, drop_getD' hdl, drop_getD' hdc] at hcf
      rw [Nat.add_zero] at hc0
      have hv0 := hmem v0 (List.mem_of_mem_drop (by rw [hd0]; simp))
      obtain ⟨hv00, hv01⟩ := hv0
      have hsubl : ∀ m, m ≤ n → (vs.take m) = vs.take m := fun _ _ => rfl
      clear hsubl
      by_cases c1 : v0 < 103 ∨ 105 < v0
      · rw [if_pos c1] at hcf
        have HC := Lib.hid hcf; clear hcf hmem hd0 hdl hdc
        rcases c1 with c1 | c1
        · have hq1 : decide (v0 < 103) = true := by simpa using c1
          go_wp2
          go_ret2
          rw [HC.out]
          exact retI_nil 19 _ _ (Below.refl _ _)
        · have hq1 : decide (v0 < 103) = false := by simp; omega
          have hq2 : decide (105 < v0) = true := by simpa using c1
          go_wp2
          go_ret2
          rw [HC.out]
          exact retI_nil 19 _ _ (Below.refl _ _)
      have hq1 : decide (v0 < 103) = false := by simp; omega
      have hq2 : decide (105 < v0) = false := by simp; omega
      rw [if_neg c1] at hcf
      by_cases c2 : vl = 106
      case neg =>
        rw [if_pos c2] at hcf
        have hq3 : (vl != 106) = true := by rw [bne_iff_ne]; exact c2
        have HC := Lib.hid hcf; clear hcf hmem hd0 hdl hdc
        go_wp2
        go_ret2
        rw [HC.out]
        exact retI_nil 20 _ _ (Below.refl _ _)
      rw [if_neg (by simp [c2])] at hcf
      have hq3 : (vl != 106) = false := by simp [c2]
      have htk : vs.take (n - 2) = v0 :: (vs.take (n - 2)).drop 1 := by
        have : (vs.take (n - 2)).drop 0 = v0 :: (vs.take (n - 2)).drop 1 := by
          have h1 := List.drop_take (i := 0) (j := n - 2) (l := vs)
          rw [h1, hd0, Nat.sub_zero, show n - 2 = (n - 3) + 1 by omega, List.take_succ_cons]
          simp only [List.drop_take, Nat.add_sub_cancel]
        simpa using this
      have hrdT := H.out.take (n - 2) (by omega)
      rw [htk] at hrdT
      have hchk := fun W (hB : Below w.heap.size w W) => checkValue_any (some ⟨b, off, none⟩) (n - 2) cap v0 ((vs.take (n - 2)).drop 1) W (hrdT.below hB) (by omega) (fun v hv => by
        rw [← htk] at hv
        have := hmem v (List.mem_of_mem_take hv); omega)
      have hce : chkL (vs.take (n - 2)) = chkF 0 v0 (v0 :: (vs.take (n - 2)).drop 1) := by
        unfold chkL
        conv => lhs; rw [htk]
        rfl
      rw [hce] at hcf
      have HCHK := Lib.hid hchk
      have hint := fun W (hB : Below w.heap.size w W) => interpret_any (some ⟨b, off + 1, none⟩) (n - 2 - 1) (cap - 1) ((vs.take (n - 2)).drop 1) (v0 - 101) W (by
        have h1 := (H.out.below hB).sub 1 (n - 2 - 1) (by omega)
        rw [show (vs.drop 1).take (n - 2 - 1) = (vs.take (n - 2)).drop 1 by rw [List.drop_take]] at h1
        exact h1) (by omega) (fun v hv => by
        have := hmem v (List.mem_of_mem_take (List.mem_of_mem_drop hv)); omega) (by omega) (by omega)
      have HINT := Lib.hid hint
      generalize hK : chkF 0 v0 (v0 :: (vs.take (n - 2)).drop 1) = K at *
      have g1 : IntKind.i64.wrap ((n : Int) - 2) = (n : Int) - 2 := IntWalk.i64_in _ (by omega)
      have g2 : ((n : Int) - 2).toNat = n - 2 := by omega
      have g3 : 0 ≤ (n : Int) - 2 := by omega
      have g4 : (n : Int) - 2 ≤ (cap : Int) := by omega
      have g5 : (n : Int) - 2 < (n : Int) := by omega
      have hcr : charsF vs = if vc ≠ K then ([], 8) else intF (v0 - 101) [] ((vs.take (n - 2)).drop 1) := hcf
      have HC := Lib.hid hcr
      clear hchk hint hcr hcf hmem hd0 hdl hdc htk hrdT hce hK
      generalize (vs.take (n - 2)).drop 1 = ms at *
      by_cases c3 : vc = K
      · have hq4 : (vc != K) = false := by simp [c3]
        have HC3 := Lib.hid c3; clear c3
        go_wp2
        go_quiet ((go_at_call 25; exact Calls.quiet_of_same ((HCHK.out _ (below_drewN (Below.refl _ _) _)).mono fun _ _ ⟨he, hw⟩ => ⟨he, hw.symm⟩)))
        go_wp2
        go_region_with (first | (go_at_call 27; refine (startSet_any _ _ (by omega) (by omega)).mono ?_; rintro e w' ⟨rfl, rfl⟩) | (go_at_call 26; refine (HINT.out _ (below_drewN (Below.refl _ _) _)).mono ?_; rintro e w2 ⟨v, rfl, hown, hb⟩))
        all_goals
          go_wp2
          go_ret2
          rw [HC.out, if_neg (by simpa using HC3.out)]
          exact ⟨v, rfl, hown, (below_drewN (Below.refl _ _) _).trans hb⟩
      · have hq4 : (vc != K) = true := by rw [bne_iff_ne]; exact c3
        have HC3 := Lib.hid c3; clear c3
        go_wp2
        go_quiet ((go_at_call 25; exact Calls.quiet_of_same ((HCHK.out _ (below_drewN (Below.refl _ _) _)).mono fun _ _ ⟨he, hw⟩ => ⟨he, hw.symm⟩)))
        go_wp2
        go_ret2
        rw [HC.out, if_pos HC3.out]
        exact retI_nil 8 _ _ (below_drewN (Below.refl _ _) _)

end Go.Proofs.Ytofedeokliljkaa
