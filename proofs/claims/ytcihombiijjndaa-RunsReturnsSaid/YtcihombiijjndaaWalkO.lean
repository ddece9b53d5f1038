/-
  The walk of the statement RunsReturns: it returns true. No condition.
-/
import Derived.Test.YtcihombiijjndaaWalkL
import Derived.Test.YtcihombiijjndaaPlainR
import Derived.IntWalk
namespace Go.Proofs.Ytcihombiijjndaa
open Go.RowKit

theorem Rd.sub {α : Type} {f : α → Value} {w : World} {b off n : Nat} {zs : List α} (h : Rd w (some ⟨b, off, none⟩) n (zs.map f)) (l m : Nat) (hlm : l + m ≤ n) : Rd w (some ⟨b, off + l, none⟩) m (((zs.drop l).take m).map f) := by
  have hl := h.length
  refine ⟨by simp; omega, by have := h.le; omega, fun k hk => ⟨b, off + l, rfl, ?_⟩⟩
  obtain ⟨b', off', e, hc⟩ := h.cell (l + k) (by omega)
  cases e
  rw [Nat.add_assoc, hc]
  have h1 : l + k < zs.length := by omega
  simp [hk]

theorem core_eq (bs : List Bool) : core bs = (bs.drop (marg bs).1).take (bs.length - (marg bs).2 - (marg bs).1) := by
  unfold core; rw [List.drop_take]

set_option maxRecDepth 100000 in
set_option maxHeartbeats 4000000 in
theorem runsReturns_walk (a : Option Addr) (n cap : Nat) (bs : List Bool) (k : Int) (w : World) (h : RdB w a n bs) (hcap : n ≤ cap) (hc63 : cap ≤ 9223372036854775807) :
    Calls Try.prog 8 #[.slice a n cap, .int .i64 k] w fun e w' => e = .returned (.bool true) ∧ Below w.heap.size w w' := by
  by_cases hn : 300 < n
  · go_enter Try.func8, Try.ntmps8
    go_wp2_with fail
    refine (alive_any _).mono ?_
    rintro e w1 ⟨rfl, hb⟩
    go_wp2
    go_ret
    exact ⟨rfl, hb⟩
  have hd0 : decide (300 < n) = false := by simp; omega
  by_cases hk1 : k < 1
  · have hd1 : decide (k < 1) = true := by simpa using hk1
    go_enter Try.func8, Try.ntmps8
    go_wp2_with fail
    refine (alive_any _).mono ?_
    rintro e w1 ⟨rfl, hb⟩
    go_wp2
    go_ret
    exact ⟨rfl, hb⟩
  have hd1 : decide (k < 1) = false := by simpa using hk1
  by_cases hk2 : 50 < k
  · have hd2 : decide (50 < k) = true := by simpa using hk2
    go_enter Try.func8, Try.ntmps8
    go_wp2_with fail
    refine (alive_any _).mono ?_
    rintro e w1 ⟨rfl, hb⟩
    go_wp2
    go_ret
    exact ⟨rfl, hb⟩
  have hd2 : decide (50 < k) = false := by simpa using hk2
  have hlen := h.length
  have hw := widths_any a n cap bs w h (by omega)
  have hmg := fun (W : World) (hB : Below w.heap.size w W) => margins_any a n cap bs W (h.below hB)
  rcases marg_cases bs with ⟨e1, e2⟩ | hlr
  · have hnil : widths bs = [] := by
      unfold widths core; rw [e1, List.drop_of_length_le (by simp)]; rfl
    rw [hnil] at hw
    rw [e1, e2, hlen] at hmg
    have HMG := Lib.hid hmg
    clear hmg hnil e1 e2 hlen
    have hself : ((n : Int) == (n : Int)) = true := beq_self_eq_true _
    go_enter Try.func8, Try.ntmps8
    go_wp2_with fail
    refine hw.mono ?_
    rintro e w1 hret
    obtain ⟨wa, wc, rfl, rw1, b1⟩ := hret.open
    rw [show ([] : List Int).length = 0 from rfl]
    go_wp2_with fail
    refine (HMG.out _ b1).mono ?_
    rintro e w' ⟨rfl, rfl⟩
    go_wp2_with fail
    refine (alive_any _).mono ?_
    rintro e w2 ⟨rfl, b2⟩
    replace b2 := below_tr b1 b2
    go_wp2
    go_ret
    exact ⟨rfl, b2⟩
  obtain ⟨hmods, hodd⟩ := modules_widths bs hlr (by omega)
  obtain ⟨cr, hcr, _, hcl⟩ := core_some bs hlr
  have hceq := core_eq bs
  have hwpos : ∀ z ∈ widths bs, 1 ≤ z := by unfold widths; exact runF_pos _ _
  have hwsum : sumI (widths bs) = (core bs).length := by unfold widths; rw [hcr, runF_sum]; simp
  obtain ⟨hwl, hwle⟩ := sumI_ge _ hwpos
  rw [hwsum, hcl, hlen] at hwl hwle
  rw [hlen] at hlr hcl hceq
  obtain ⟨k', rfl⟩ : ∃ k' : Nat, k = ((k' + 1 : Nat) : Int) := ⟨(k - 1).toNat, by omega⟩
  have hkn : ((k' + 1 : Nat) : Int) ≤ 65536 / (n : Int) := by
    refine Int.le_ediv_of_mul_le (by omega) ?_
    have := Nat.mul_le_mul (show k' + 1 ≤ 50 by omega) (show n ≤ 300 by omega)
    rw [← Int.natCast_mul]; omega
  have hstr : stretch bs ((k' + 1 : Nat) : Int) = (strF (k' + 1) bs, 0) := by
    unfold stretch
    rw [if_neg (by omega), if_neg (by rw [hlen]; omega), Int.toNat_natCast]
  have hsl : (strF (k' + 1) bs).length ≤ 15000 := by
    rw [strF_length, hlen]
    have := Nat.mul_le_mul (show n ≤ 300 by omega) (show k' + 1 ≤ 50 by omega)
    omega
  have cW := fun (W : World) (hB : Below w.heap.size w W) => stretch_any a n cap bs ((k' + 1 : Nat) : Int) W (h.below hB) (by omega) (by omega)
  rw [hstr] at cW
  obtain ⟨b, off, z0, rfl, _, _⟩ := h.at 0 (by omega)
  have hsub : ∀ (W : World), Below w.heap.size w W → RdB W (some ⟨b, off + (marg bs).1, none⟩) (core bs).length (core bs) := by
    intro W hB
    have h1 := (h.below hB).sub (marg bs).1 (n - (marg bs).2 - (marg bs).1) (by omega)
    rw [← hceq] at h1
    rwa [hcl, show n - (marg bs).1 - (marg bs).2 = n - (marg bs).2 - (marg bs).1 by omega]
  have hkW : ∀ z ∈ widths bs, IntKind.i64.wrap (((k' + 1 : Nat) : Int) * z) = ((k' + 1 : Nat) : Int) * z := by
    intro z hz
    have h1 := hwpos z hz
    have h2 := hwle z hz
    have h3 : ((k' + 1 : Nat) : Int) * z ≤ 50 * 300 := Int.mul_le_mul (by omega) (by omega) (by omega) (by omega)
    have h4 : 0 ≤ ((k' + 1 : Nat) : Int) * z := Int.mul_nonneg (by omega) (by omega)
    exact IntWalk.i64_in _ (by omega)
  have HROW := Lib.hid h
  have HKW := Lib.hid hkW
  have HSUB := Lib.hid hsub
  have HMODS := Lib.hid hmods
  have HCW := Lib.hid cW
  have HMG := Lib.hid hmg
  have HSH := Lib.hid (shrink_str k' bs)
  have HWS := Lib.hid (widths_str k' bs)
  have hbs : ((((marg bs).1 : Int) + ((core bs).length : Int) + ((marg bs).2 : Int)) != (n : Int)) = false := by simp; omega
  have hwo : (((widths bs).length : Int) % 2 == 0) = false := beq_eq_false_iff_ne.2 (by omega)
  have hw0 : (((widths bs).length : Int) == 0) = false := beq_eq_false_iff_ne.2 (by omega)
  have hclb : (marg bs).1 + (core bs).length ≤ n := by omega
  have hwl3 : (widths bs).length ≤ 300 := by omega
  have hl0 : (marg bs).1 < n := by omega
  have hr0 : (marg bs).2 < n := by omega
  clear hkW hsub hmods cW hmg hceq hcr hcl hwpos hwsum hwl hwle hstr hodd hlr hlen
  generalize (marg bs).1 = l at *
  generalize (marg bs).2 = r at *
  generalize core bs = C at *
  generalize widths bs = V at *
  generalize strF (k' + 1) bs = Z at *
  generalize hK : ((k' + 1 : Nat) : Int) = K at *
  clear hK
  go_enter Try.func8, Try.ntmps8
  go_wp2_with fail
  refine hw.mono ?_
  rintro e w1 hret
  obtain ⟨va, vc, rfl, rV, b1⟩ := hret.open
  go_wp2_with fail
  refine (HMG.out _ b1).mono ?_
  rintro e w' ⟨rfl, rfl⟩
  go_wp2_with fail
  refine (modules_any _ _ _ V _ rV (by omega)).mono ?_
  rw [HMODS.out]
  rintro e w2 hret
  obtain ⟨ma, mc, rfl, rM, b2⟩ := hret.open
  replace rV := rV.below b2
  replace b2 := below_tr b1 b2
  clear b1
  go_wp2_with fail
  refine (same_self _ _ _ _ _ _ _ _ rM (HSUB.out _ b2)).mono ?_
  rintro e w3 ⟨rfl, b3⟩
  replace rV := rV.below b3
  replace b3 := below_tr b2 b3
  clear b2 rM
  go_wp2_with fail
  refine (HCW.out _ b3).mono ?_
  rintro e w4 hret
  obtain ⟨sa, sc, rfl, rS, b4⟩ := hret.open
  replace rV := rV.below b4
  replace b4 := below_tr b3 b4
  clear b3
  go_wp2_with fail
  refine (shrink_any _ _ _ Z K _ rS (by omega) (by omega)).mono ?_
  rw [HSH.out]
  rintro e w5 hret
  obtain ⟨ta, tc, rfl, rT, b5⟩ := hret.open
  replace rV := rV.below b5
  replace rS := rS.below b5
  replace b5 := below_tr b4 b5
  clear b4
  go_wp2_with fail
  refine (widths_any _ _ _ Z _ rS (by omega)).mono ?_
  rw [HWS.out]
  rintro e w6 hret
  obtain ⟨ua, uc, rfl, rU, b6⟩ := hret.open
  replace rV := rV.below b6
  replace rT := rT.below b6
  replace b6 := below_tr b5 b6
  clear b5 rS
  go_wp2_with fail
  refine (same_self _ _ _ _ _ _ _ _ rT (HROW.out.below b6)).mono ?_
  rintro e w7 ⟨rfl, b7⟩
  replace rV := rV.below b7
  replace rU := rU.below b7
  replace b7 := below_tr b6 b7
  clear b6 rT
  have hself : (((V.length : Int)) != ((V.length : Int))) = false := by simp
  have RV := Lib.hid rV
  have RU := Lib.hid rU
  clear rV rU
  go_wp2
  go_loopw [130] (fun x wr => ∃ (i : Nat), i ≤ V.length ∧ x = .int .i64 i ∧ Below w7.heap.size w7 wr) (fun x _ => V.length - (intOf x).toNat)
  case atStart => exact ⟨0, Nat.zero_le _, rfl, Below.refl _ _⟩
  case round =>
    obtain ⟨i, hi, rfl, hB⟩ := hrel
    by_cases hlt : i < V.length
    · obtain ⟨b1, off1, z1, rfl, hc1, hd1⟩ := (RV.out.below hB).at i hlt
      obtain ⟨b2, off2, z2, rfl, hc2, hd2⟩ := (RU.out.below hB).at i (by rw [List.length_map]; exact hlt)
      have hz2 : z2 = K * z1 := by
        have e1 := getElem?_of_drop hd1
        have e2 := getElem?_of_drop hd2
        rw [List.getElem?_map, e1] at e2
        simpa using e2.symm
      subst hz2
      have hwz := HKW.out z1 (List.mem_of_mem_drop (by rw [hd1]; simp))
      have hne : (K * z1 != K * z1) = false := by simp
      clear hd1 hd2
      go_wp2
      go_quiet (fail)
      clear hwz
      go_wp2
      go_roundw
      case rel => exact ⟨i + 1, by omega, by go_num, below_drewN hB _⟩
      case measure => simp [intOf]; omega
    · go_wp2_with fail
      refine (alive_any _).mono ?_
      rintro e w8 ⟨rfl, b8⟩
      go_wp2
      go_ret
      exact ⟨rfl, below_tr (below_tr b7 hB) b8⟩

end Go.Proofs.Ytcihombiijjndaa
