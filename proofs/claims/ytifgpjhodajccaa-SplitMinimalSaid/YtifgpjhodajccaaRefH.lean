/-
  The walks of the reference's longest and Cuts. Condition: the payload has at most 255 bytes.
-/
import Derived.Test.YtifgpjhodajccaaRefG
import Derived.Test.YtifgpjhodajccaaPlainR
import Derived.Test.YtifgpjhodajccaaWalkL
namespace Go.Proofs.Ytifgpjhodajccaa
open Go.RowKit

set_option maxRecDepth 100000 in
set_option maxHeartbeats 4000000 in
theorem longest_any (a : Option Addr) (n cap ver l : Nat) (bs : List Int) (w : World) (h : RdU w a n bs) (hby : ∀ b ∈ bs, 0 ≤ b ∧ b < 256) (l1 : 1 ≤ l) (l2 : l ≤ 4) (hn : n ≤ 255) (hcap : n ≤ cap) (hcap2 : cap ≤ 9223372036854775807) :
    Calls Try.prog 24 #[.slice a n cap, .int .i64 ver, .int .i64 l] w fun e w' => e = .returned (.int .i64 (cutN bs ver l)) ∧ Below w.heap.size w w' := by
  have HL := Lib.hid h.length
  have HF := Lib.hid (fun (k : Nat) (hk : k < n) W (hW : Below w.heap.size w W) => ref23Fits_any a (k + 1) cap ver l 20 (bs.take (k + 1)) W ((h.below hW).take (k + 1) (by omega)) (fun b hb => hby b (List.mem_of_mem_take hb)) l1 l2 (by omega) (by omega) (by omega) (by omega) hcap2)
  have HA := Lib.hid (fun (k : Nat) (hk : k < n) => h.at k hk)
  clear h hby
  go_enter Try.func24, Try.ntmps24
  go_wp2_with fail
  go_loopg [7] n (fun r x wr => ∃ k : Nat, k + r = n ∧ x = .int .i64 k ∧ Hid (∀ i, i < k → fitsF (bs.take (i + 1)) ver l 20 = true) ∧ Below w.heap.size w wr)
  case atStart => exact ⟨0, by omega, rfl, Lib.hid (fun i hi => by omega), Below.refl _ _⟩
  case round =>
    obtain ⟨k, hk, rfl, hR, hB⟩ := hrel
    by_cases hlt : k < n
    · obtain ⟨b, off, z, rfl, _, _⟩ := HA.out k hlt
      have hfk := HF.out k hlt wr hB
      have q0 : decide ((k : Int) < (n : Int)) = true := decide_eq_true (by omega)
      have q1 : decide (k < n) = true := decide_eq_true hlt
      have q2 : (k : Int) + 1 ≤ (cap : Int) := by omega
      have q3 : (0 : Int) ≤ (k : Int) + 1 := by omega
      cases hf : fitsF (bs.take (k + 1)) ver l 20 with
      | true =>
        rw [hf] at hfk
        have HFK := Lib.hid hfk
        have HR2 : Hid (∀ i, i < k + 1 → fitsF (bs.take (i + 1)) ver l 20 = true) := Lib.hid fun i hi => by
          rcases Nat.lt_succ_iff_lt_or_eq.1 hi with h1 | h1
          · exact hR.out i h1
          · subst h1; exact hf
        clear hfk HF HA hR hf
        go_wp2_with fail
        refine HFK.out.mono ?_
        rintro e w5 ⟨rfl, hb5⟩
        have hB5 := below_tr hB hB.size hb5
        go_wp2_with fail
        go_roundg (n - (k + 1))
        case rel => exact ⟨k + 1, by omega, by go_num, HR2, hB5⟩
        case measure => omega
      | false =>
        rw [hf] at hfk
        have HFK := Lib.hid hfk
        have HE : Hid (cutN bs ver l = k) := Lib.hid (cutN_eq (by rw [HL.out]; exact hn) (by rw [HL.out]; omega) hR.out (fun _ => hf))
        clear hfk HF HA hR hf
        go_wp2_with fail
        refine HFK.out.mono ?_
        rintro e w5 ⟨rfl, hb5⟩
        have hB5 := below_tr hB hB.size hb5
        go_wp2_with fail
        go_ret
        exact ⟨by rw [HE.out]; rfl, hB5⟩
    · obtain rfl : k = n := by omega
      have HE : Hid (cutN bs ver l = k) := Lib.hid (cutN_eq (by rw [HL.out]; exact hn) (by rw [HL.out]; omega) hR.out (fun h => by rw [HL.out] at h; omega))
      have q0 : decide ((k : Int) < (k : Int)) = false := decide_eq_false (by omega)
      clear HF HA hR
      go_wp2_with fail
      go_ret
      exact ⟨by rw [HE.out]; rfl, hB⟩

set_option maxRecDepth 100000 in
set_option maxHeartbeats 8000000 in
theorem refCuts_any (a : Option Addr) (n cap : Nat) (ver l : Int) (bs : List Int) (w : World) (h : RdU w a n bs) (hby : ∀ b ∈ bs, 0 ≤ b ∧ b < 256) (hn : n ≤ 255) (hcap : n ≤ cap) (hcap2 : cap ≤ 9223372036854775807) :
    Calls Try.prog 12 #[.slice a n cap, .int .i64 ver, .int .i64 l] w (RetI (cutsF bs ver l).1 (cutsF bs ver l).2 w) := by
  have H := Lib.hid h; have HL := Lib.hid h.length; have HBY := Lib.hid hby
  clear h hby
  have hcf : cutsF bs ver l = if ver < 1 ∨ 40 < ver then ([], 14) else if l < 1 ∨ 4 < l then ([], 15) else if 4096 < n then ([], 4)
      else if fitsF bs ver.toNat l.toNat 0 = true then ([(n : Int)], 0) else cutsL ver.toNat l.toNat (n + 1) bs [] := by unfold cutsF; rw [HL.out]
  by_cases hv1 : ver < 1
  · have hd : decide (ver < 1) = true := by simpa using hv1
    rw [if_pos (.inl hv1)] at hcf
    rw [hcf]
    go_enter Try.func12, Try.ntmps12
    go_wp2
    go_ret2
    exact retI_nil2 _ _ _ (Below.refl _ _)
  by_cases hv2 : 40 < ver
  · have hd : decide (ver < 1) = false := by simpa using hv1
    have hd2 : decide (40 < ver) = true := by simpa using hv2
    rw [if_pos (.inr hv2)] at hcf
    rw [hcf]
    go_enter Try.func12, Try.ntmps12
    go_wp2
    go_ret2
    exact retI_nil2 _ _ _ (Below.refl _ _)
  rw [if_neg (by omega)] at hcf
  obtain ⟨ve, rfl⟩ := Int.eq_ofNat_of_zero_le (show 0 ≤ ver by omega)
  have hd1 : decide ((ve : Int) < 1) = false := by simpa using hv1
  have hd2 : decide (40 < (ve : Int)) = false := by simpa using hv2
  by_cases hl1 : l < 1
  · have hd : decide (l < 1) = true := by simpa using hl1
    rw [if_pos (.inl hl1)] at hcf
    rw [hcf]
    go_enter Try.func12, Try.ntmps12
    go_wp2
    go_ret2
    exact retI_nil2 _ _ _ (Below.refl _ _)
  by_cases hl2 : 4 < l
  · have hd : decide (l < 1) = false := by simpa using hl1
    have hd2 : decide (4 < l) = true := by simpa using hl2
    rw [if_pos (.inr hl2)] at hcf
    rw [hcf]
    go_enter Try.func12, Try.ntmps12
    go_wp2
    go_ret2
    exact retI_nil2 _ _ _ (Below.refl _ _)
  rw [if_neg (by omega)] at hcf
  obtain ⟨le, rfl⟩ := Int.eq_ofNat_of_zero_le (show 0 ≤ l by omega)
  have hd3 : decide ((le : Int) < 1) = false := by simpa using hl1
  have hd4 : decide (4 < (le : Int)) = false := by simpa using hl2
  rw [if_neg (by omega), Int.toNat_natCast, Int.toNat_natCast] at hcf
  have hd5 : decide (4096 < (n : Int)) = false := by simp; omega
  have HFI := Lib.hid (ref23Fits_any a n cap ve le 0 bs w H.out HBY.out (by omega) (by omega) (by omega) (by omega) (by omega) hcap hcap2)
  by_cases hfit : fitsF bs ve le 0 = true
  · rw [if_pos hfit] at hcf
    rw [hcf]
    simp only [hfit] at HFI
    go_enter Try.func12, Try.ntmps12
    go_wp2_with fail
    refine HFI.out.mono ?_
    rintro e w5 ⟨rfl, hB5⟩
    go_wp2
    go_ret2
    exact ⟨_, rfl, own_new w5 [.int .i64 n] 1 hB5.size rfl (by unfold maxLen; omega), hB5.alloc hB5.size _⟩
  have hfit2 : fitsF bs ve le 0 = false := by simpa using hfit
  rw [if_neg hfit] at hcf
  simp only [hfit2] at HFI
  have HCF := Lib.hid hcf
  clear hcf hfit hfit2
  obtain ⟨i3, hi3, hz3a, hz3b, hz3c⟩ := info_parts info3
  go_enter Try.func12, Try.ntmps12
  go_wp2_with fail
  refine HFI.out.mono ?_
  rintro e wb ⟨rfl, hb5⟩
  clear HFI
  go_wp2_with fail
  go_loopg [8, 9] (n + 1) (fun r v x wr => ∃ (q : Nat) (acc : List Int), x = .int .i64 q ∧ q ≤ n ∧ (n - q) + 1 ≤ r ∧ wr.ownsRow w.heap.size 3 1 v acc.length (acc.map (Value.int .i64)) ∧ acc.length ≤ 16 ∧ Below w.heap.size w wr ∧ Hid (cutsL ve le r (bs.drop q) acc = cutsL ve le (n + 1) bs []))
  case atStart => exact ⟨0, [], rfl, Nat.zero_le _, Nat.le_refl _, World.ownsRow_nil _ _ _ _, by simp, hb5, rfl⟩
  case round =>
    clear hb5
    obtain ⟨q, acc, rfl, hq, hqr, hown, hacc, hB, hC⟩ := hrel
    have HRL : Hid ((bs.drop q).length = n - q) := Lib.hid (by rw [List.length_drop, HL.out])
    obtain ⟨g, rfl⟩ : ∃ g, gk = g + 1 := ⟨gk - 1, by omega⟩
    have hBs := hB.size
    by_cases hqn : q = n
    · subst hqn
      have hres : cutsL ve le (q + 1) bs [] = (acc, 0) := by
        rw [← hC.out, cutsL, if_pos (by rw [HRL.out]; omega)]
      have HRES := Lib.hid hres
      have q0 : decide ((q : Int) < (q : Int)) = false := decide_eq_false (by omega)
      clear hres hC
      go_wp2_with fail
      go_ret2
      rw [HCF.out, HRES.out]
      exact ⟨_, rfl, hown, hB⟩
    · have hst : cutsL ve le (g + 1) (bs.drop q) acc = if cutN (bs.drop q) ve le = 0 ∨ acc.length = 16 then ([], 16) else cutsL ve le g ((bs.drop q).drop (cutN (bs.drop q) ve le)) (acc ++ [(cutN (bs.drop q) ve le : Int)]) := by
        rw [cutsL, if_neg (by rw [HRL.out]; omega)]
      have hcn := cutN_le (bs.drop q) ve le
      rw [HRL.out] at hcn
      obtain ⟨b, off, z, rfl, _, _⟩ := (H.out.below hB).at q (by omega)
      have hsub := Rd.sub (H.out.below hB) q (n - q) (by omega)
      rw [List.take_of_length_le (by rw [HRL.out]; exact Nat.le_refl _)] at hsub
      have HSE := Lib.hid (longest_any (some ⟨b, off + q, none⟩) (n - q) (cap - q) ve le (bs.drop q) wr hsub (fun b hb => HBY.out b (List.mem_of_mem_drop hb)) (by omega) (by omega) (by omega) (by omega) (by omega))
      obtain ⟨cn, hcnn⟩ : ∃ cn, cutN (bs.drop q) ve le = cn := ⟨_, rfl⟩
      rw [hcnn] at HSE hst hcn
      have HST := Lib.hid hst
      have q0 : decide ((q : Int) < (n : Int)) = true := decide_eq_true (by omega)
      have q1 : (0 : Int) ≤ (q : Int) := by omega
      have q2 : (q : Int) ≤ (n : Int) := by omega
      have q3 : (n : Int) ≤ (cap : Int) := by omega
      have hqc : ¬ (q = cap) := by omega
      have hqc2 : ¬ (cap = q) := by omega
      clear hst hcnn hsub
      obtain ⟨va, vc, rfl, _⟩ := own_rd hown
      go_wp2_with fail
      refine HSE.out.mono ?_
      rintro e w5 ⟨rfl, hb5⟩
      have hown5 := own_below hown hb5
      have hB5 : Below w.heap.size w w5 := below_tr hB hB.size hb5
      have hB5s := hB5.size
      clear hown hB hb5 HSE
      by_cases hc0 : cn = 0
      · subst hc0
        have hres : cutsL ve le (n + 1) bs [] = ([], 16) := by rw [← hC.out, HST.out, if_pos (.inl rfl)]
        have HRES := Lib.hid hres
        clear hres
        go_wp2
        go_ret2
        rw [HCF.out, HRES.out]
        exact retI_nil2 _ _ _ hB5
      have hc0' : ((cn : Int) == 0) = false := by simp; omega
      by_cases ha16 : acc.length = 16
      · have hres : cutsL ve le (n + 1) bs [] = ([], 16) := by rw [← hC.out, HST.out, if_pos (.inr ha16)]
        have HRES := Lib.hid hres
        have h16 : ((acc.length : Int) == 16) = true := by simp; omega
        clear hres
        go_wp2
        go_ret2
        rw [HCF.out, HRES.out]
        exact retI_nil2 _ _ _ hB5
      have h16 : ((acc.length : Int) == 16) = false := by simp; omega
      have hC2 : Hid (cutsL ve le g (bs.drop (q + cn)) (acc ++ [(cn : Int)]) = cutsL ve le (n + 1) bs []) := Lib.hid (by rw [← hC.out, HST.out, if_neg (by omega), List.drop_drop])
      clear HST hC
      go_wp2_with (at_builtin; refine wpList_append_own _ rfl _ _ 26 rfl w.heap.size 3 i3 (.int .i64 0) 1 8 Try.underlying26 hi3 hz3a hz3b hz3c rfl (by decide) _ _ _ rfl (hown5.alloc _) ⟨w5.heap.size, 0, none⟩ 1 1 [.int .i64 cn] rfl rfl (cell_one_new _ _ _) (by simp [Value.oneCell']) ?c3 ?c4 ?c5 ?_)
      case c3 => unfold maxLen; omega
      case c4 => omega
      case c5 => simp; omega
      intro v7 w7 hown7 hgrow7 _
      have hB7 := below_app3 hB5 hB5s hown5 hgrow7
      have HO7 := Lib.hid hown7
      clear hgrow7 hown5 hB5 hown7
      go_wp2_with fail
      go_roundg g
      case rel => exact ⟨q + cn, acc ++ [(cn : Int)], by go_num, by omega, by omega, own_congr HO7.out (by simp) (by simp), by simp; omega, hB7, hC2⟩
      case measure => omega

end Go.Proofs.Ytifgpjhodajccaa
