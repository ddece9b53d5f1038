/-
  The walk of Decode of the reference of package code128. Condition: at most 2^38 modules.
-/
import Derived.Test.YtofedeokliljkaaWalkRb
import Derived.Test.YtofedeokliljkaaPlainJ
namespace Go.Proofs.Ytofedeokliljkaa
open Go.RowKit

theorem runF_ne : ∀ (r : List Bool) (x : Bool) (n : Nat), runF n (x :: r) ≠ []
  | [], x, n => by simp [runF]
  | y :: r, x, n => by
    unfold runF
    split
    · exact runF_ne r y (n + 1)
    · simp

theorem widths_nil (bs : List Bool) : (widths bs).length = 0 ↔ (marg bs).1 = bs.length := by
  have hc : (core bs).length = (bs.length - (marg bs).2) - (marg bs).1 := by unfold core; simp
  rcases marg_cases bs with ⟨h1, h2⟩ | h
  · refine ⟨fun _ => h1, fun _ => ?_⟩
    have : core bs = [] := List.eq_nil_of_length_eq_zero (by omega)
    unfold widths; rw [this]; rfl
  · refine ⟨fun h0 => ?_, fun h0 => by omega⟩
    have hne : core bs ≠ [] := by intro e; rw [e] at hc; simp at hc; omega
    obtain ⟨x, r, e⟩ := List.exists_cons_of_ne_nil hne
    exact absurd (List.eq_nil_of_length_eq_zero h0) (by unfold widths; rw [e]; exact runF_ne r x 0)

theorem valFrom_spec (ws : List Int) : ∀ (f v : Nat), (valFrom ws f v = -1 ∧ ∀ k, v ≤ k → k < v + f → widL k ≠ ws) ∨ (∃ k : Nat, v ≤ k ∧ k < v + f ∧ valFrom ws f v = k ∧ widL k = ws)
  | 0, v => .inl ⟨rfl, fun k h1 h2 => by omega⟩
  | f + 1, v => by
    unfold valFrom
    by_cases h : widL v = ws
    · rw [if_pos h]; exact .inr ⟨v, by omega, by omega, rfl, h⟩
    · rw [if_neg h]
      rcases valFrom_spec ws f (v + 1) with ⟨h1, h2⟩ | ⟨k, h1, h2, h3, h4⟩
      · refine .inl ⟨h1, fun k hk1 hk2 => ?_⟩
        by_cases e : k = v
        · subst e; exact h
        · exact h2 k (by omega) (by omega)
      · exact .inr ⟨k, by omega, by omega, h3, h4⟩

theorem findV_none : ∀ (k : Nat) (ws : List Int), (∀ j, j < k → widL j ≠ ws) → findV k ws = none
  | 0, _, _ => rfl
  | k + 1, ws, h => by
    unfold findV
    rw [if_neg (h k (by omega))]
    exact findV_none k ws (fun j hj => h j (by omega))

theorem value_six {ws : List Int} (hl : ws.length = 6) : valueF ws = (findA ws).getD (-1) := by
  rcases valFrom_spec ws 107 0 with ⟨h1, h2⟩ | ⟨k, h1, h2, h3, h4⟩
  · have : findA ws = none := findV_none 106 ws (fun j hj => h2 j (by omega) (by omega))
    rw [this]; exact h1
  · have hk : k < 106 := by
      rcases Nat.lt_or_ge k 106 with h | h
      · exact h
      · have : k = 106 := by omega
        subst this
        rw [← h4] at hl
        rw [wid_stop.2.1] at hl; omega
    have := (wid_all k hk).1
    rw [h4] at this
    rw [this]; exact h3

theorem value_stop (ws : List Int) : valueF ws = 106 ↔ ws = widL 106 := by
  constructor
  · intro h
    rcases valFrom_spec ws 107 0 with ⟨h1, _⟩ | ⟨k, h1, h2, h3, h4⟩
    · have : valueF ws = -1 := h1
      omega
    · have : valueF ws = k := h3
      have hk : k = 106 := by omega
      subst hk; exact h4.symm
  · intro h
    subst h
    rcases valFrom_spec (widL 106) 107 0 with ⟨h1, h2⟩ | ⟨k, h1, h2, h3, h4⟩
    · exact absurd rfl (h2 106 (by omega) (by omega))
    · have : valueF (widL 106) = k := h3
      rw [this]
      rcases Nat.lt_or_ge k 106 with h | h
      · have h5 := (wid_all k h).2.1
        rw [h4, wid_stop.2.1] at h5; omega
      · omega

theorem findV_nonneg : ∀ (k : Nat) {ws : List Int} {v : Int}, findV k ws = some v → 0 ≤ v
  | 0, _, _, h => by simp [findV] at h
  | k + 1, ws, v, h => by
    unfold findV at h
    split at h
    · simp at h; omega
    · exact findV_nonneg k h
theorem findA_nonneg {ws : List Int} {v : Int} (h : findA ws = some v) : 0 ≤ v := findV_nonneg 106 h

set_option maxRecDepth 100000 in
set_option maxHeartbeats 4000000 in
theorem refDecode_any (a : Option Addr) (n cap : Nat) (bs : List Bool) (w : World) (h : RdB w a n bs) (hn : n ≤ 274877906944) :
    Calls Try.prog 21 #[.slice a n cap] w (RetI (decF bs).1 (decF bs).2 w) := by
  have HM := Lib.hid (fun W (hW : Below w.heap.size w W) => refMargins_any a n cap bs W (h.below hW))
  have HW := Lib.hid (refWidths_any a n cap bs w h (by omega))
  have hwl := widths_length bs
  have hwn := widths_nil bs
  have hE : decF bs = if (marg bs).1 = bs.length then ([], 5) else if (marg bs).1 < 10 ∨ (marg bs).2 < 10 then ([], 9)
    else if (widths bs).length < 19 ∨ ((widths bs).length - 7) % 6 ≠ 0 then ([], 7)
    else if (widths bs).drop ((widths bs).length - 7) ≠ widL 106 then ([], 20)
    else match decL (((widths bs).length - 7) / 6) (widths bs) [] with
      | none => ([], 18)
      | some vs => charsF (vs ++ [106]) := rfl
  rw [h.length] at hE hwl hwn
  generalize marg bs = M at *
  generalize widths bs = ws at *
  obtain ⟨ml, mr⟩ := M
  simp only at hE hwn
  have HE := Lib.hid hE; clear hE h
  have HWN := Lib.hid hwn; clear hwn
  go_enter Try.func21, Try.ntmps21
  go_wp2_with fail
  refine HW.out.mono ?_
  rintro e w2 hret
  obtain ⟨wa, wcp, rfl, hws, hwc, hwc2, hB2⟩ := hret.open3
  clear hret HW
  have HWS := Lib.hid hws; clear hws
  go_wp2_with fail
  refine (HM.out _ hB2).mono ?_
  rintro e w' ⟨rfl, rfl⟩
  clear HM
  by_cases h1 : ml = n
  · have h0 := HWN.out.2 h1
    have hd0 : ((ws.length : Int) == 0) = true := by rw [h0]; rfl
    have he := HE.out
    rw [if_pos h1] at he
    have HE2 := Lib.hid he
    clear he h0 h1
    go_wp2
    go_ret2
    rw [HE2.out]
    exact retI_nil _ _ _ hB2
  have h0 : ws.length ≠ 0 := fun e => h1 (HWN.out.1 e)
  have hd0 : ((ws.length : Int) == 0) = false := by simp only [beq_eq_false_iff_ne, ne_eq]; omega
  by_cases h2 : ml < 10 ∨ mr < 10
  · have he := HE.out
    rw [if_neg h1, if_pos h2] at he
    have HE2 := Lib.hid he
    clear he HE
    have H2 := Lib.hid h2; clear h2
    by_cases h3 : ml < 10
    · have hd2 : decide ((ml : Int) < 10) = true := by simp; omega
      go_wp2
      go_ret2
      rw [HE2.out]
      exact retI_nil _ _ _ hB2
    · have hd2 : decide ((ml : Int) < 10) = false := by simp; omega
      have hd3 : decide ((mr : Int) < 10) = true := by have := H2.out; simp; omega
      go_wp2
      go_ret2
      rw [HE2.out]
      exact retI_nil _ _ _ hB2
  have hd2 : decide ((ml : Int) < 10) = false := by simp; omega
  have hd3 : decide ((mr : Int) < 10) = false := by simp; omega
  have he := HE.out
  rw [if_neg h1, if_neg h2] at he
  have HE2 := Lib.hid he
  clear he HE h1 h2 h0
  by_cases h4 : ws.length < 19 ∨ (ws.length - 7) % 6 ≠ 0
  · have he := HE2.out
    rw [if_pos h4] at he
    have HE3 := Lib.hid he
    clear he HE2
    have H4 := Lib.hid h4; clear h4
    by_cases h5 : ws.length < 19
    · have hd4 : decide ((ws.length : Int) - 7 < 12) = true := by simp; omega
      go_wp2
      go_ret2
      rw [HE3.out]
      exact retI_nil _ _ _ hB2
    · have hd4 : decide ((ws.length : Int) - 7 < 12) = false := by simp; omega
      have hd5 : ((((ws.length : Int) - 7) % 6) != 0) = true := by have := H4.out; simp; omega
      go_wp2
      go_ret2
      rw [HE3.out]
      exact retI_nil _ _ _ hB2
  have hl19 : 19 ≤ ws.length := by omega
  obtain ⟨q, hq⟩ : ∃ q, ws.length = 6 * q + 7 := ⟨(ws.length - 7) / 6, by omega⟩
  have hd4 : decide ((ws.length : Int) - 7 < 12) = false := by simp; omega
  have hd5 : ((((ws.length : Int) - 7) % 6) != 0) = false := by simp; omega
  have he := HE2.out
  rw [if_neg h4] at he
  have e7 : ws.length - 7 = 6 * q := by omega
  rw [e7, show 6 * q / 6 = q by omega] at he
  have HE3 := Lib.hid he
  have hq2 : 2 ≤ q := by omega
  have hqb : q ≤ 50000000000 := by omega
  have hcapq : 6 * q + 7 ≤ wcp := by omega
  clear he HE2 h4 e7
  have hws := HWS.out
  rw [hq] at hws
  obtain ⟨wb, wo, rfl⟩ : ∃ wb wo, wa = some ⟨wb, wo, none⟩ := by
    obtain ⟨b, o, e, _⟩ := hws.cell 0 (by omega)
    exact ⟨b, o, e⟩
  have hsub := hws.sub (6 * q) 7 (by omega)
  have hde : (ws.drop (6 * q)).take 7 = ws.drop (6 * q) := List.take_of_length_le (by simp; omega)
  rw [hde] at hsub
  have HSUB := Lib.hid hsub
  have HW7 := Lib.hid hws
  clear hsub hws HWS hde
  rw [hq] at *
  have h67 : ((6 * q + 7 : Nat) : Int) - 7 = ((6 * q : Nat) : Int) := by omega
  rw [h67] at *
  clear h67 hq hwl hl19
  have hm6 : decide (((6 * q : Nat) : Int) < 12) = false := by simp; omega
  have hm7 : ((((6 * q : Nat) : Int) % 6) != 0) = false := by simp
  have hme : 12 ≤ 6 * q := by omega
  obtain ⟨e6, he6⟩ : ∃ e6, 6 * q = e6 := ⟨_, rfl⟩
  rw [he6] at HE3 HSUB HW7 hcapq hm6 hm7 hme ⊢
  have HE6 := Lib.hid he6
  clear he6 hd4 hd5
  have HV7 := Lib.hid (fun W (hW : Below w2.heap.size w2 W) => refValue_any (some ⟨wb, wo + e6, none⟩) 7 (wcp - e6) (ws.drop e6) W (HSUB.out.below hW))
  by_cases hwE : ws.drop e6 = widL 106
  · have hv106 := (value_stop (ws.drop e6)).2 hwE
    rw [hv106] at HV7
    have he := HE3.out
    rw [if_neg (by simpa using hwE)] at he
    have HE4 := Lib.hid he
    clear he HE3 hwE hv106
    go_wp2_with fail
    refine (HV7.out _ (Below.refl _ _)).mono ?_
    rintro e w3 ⟨rfl, b3⟩
    have hB3 := below_tr hB2 b3
    go_wp2_with fail
    go_loopg [8, 9] q (fun r v x wr => ∃ (k : Nat) (acc : List Int), k + r = q ∧ x = .int .i64 ((6 * k : Nat) : Int) ∧ wr.ownsRow w3.heap.size 3 1 v acc.length (acc.map (Value.int .i64)) ∧ acc.length ≤ k ∧ Below w3.heap.size w3 wr ∧ Hid (decL r (ws.drop (6 * k)) acc = decL q ws []))
    case atStart => exact ⟨0, [], by omega, rfl, World.ownsRow_nil _ _ _ _, Nat.le_refl _, Below.refl _ _, rfl⟩
    case round =>
      obtain ⟨k, acc, hk2, rfl, hown, hal, hB, hD⟩ := hrel
      by_cases hkq : k < q
      · obtain ⟨r', rfl⟩ : ∃ r', gk = r' + 1 := ⟨gk - 1, by omega⟩
        have hrd6 := ((HW7.out.below b3).below hB).sub (6 * k) 6 (by have := HE6.out; omega)
        have hwl6 : ((ws.drop (6 * k)).take 6).length = 6 := by
          have := HE6.out; have := HW7.out.length; simp; omega
        have hvs := value_six hwl6
        have HV := Lib.hid (refValue_any (some ⟨wb, wo + 6 * k, none⟩) 6 (wcp - 6 * k) ((ws.drop (6 * k)).take 6) wr hrd6)
        rw [hvs] at HV
        have hlt6 : 6 * k + 6 ≤ e6 := by have := HE6.out; omega
        have hnext : 6 * (k + 1) = 6 * k + 6 := by omega
        have HNX := Lib.hid hnext
        clear hwl6 hrd6 hnext hvs
        cases hfv : findA ((ws.drop (6 * k)).take 6) with
        | none =>
          rw [hfv] at HV
          simp only [Option.getD_none] at HV
          have hdn : decL q ws [] = none := by rw [← hD.out]; exact decL_none hfv
          have HDN := Lib.hid hdn
          clear hfv hdn hD
          generalize 6 * k = k6 at *
          have hd6 : decide ((k6 : Int) < (e6 : Int)) = true := by simp; omega
          obtain ⟨wo1, rfl⟩ : ∃ wo1 : World, wo1 = wr := ⟨_, rfl⟩
          go_wp2_with fail
          refine HV.out.mono ?_
          rintro e w5 ⟨rfl, b5⟩
          go_wp2
          go_ret2
          rw [HE4.out, HDN.out]
          exact retI_nil _ _ _ (below_tr (below_tr hB3 hB) b5)
        | some v =>
          rw [hfv] at HV
          simp only [Option.getD_some] at HV
          have hv0 : 0 ≤ v := findA_nonneg hfv
          have hdn : decL r' (ws.drop (6 * (k + 1))) (acc ++ [v]) = decL q ws [] := by
            rw [← hD.out, decL_some hfv, List.drop_drop, HNX.out]
          have HDN := Lib.hid hdn
          clear hfv hdn hD
          obtain ⟨i3, hi3, hz3a, hz3b, hz3c⟩ := info_parts info3
          have hnx : ((6 * k : Nat) : Int) + 6 = ((6 * (k + 1) : Nat) : Int) := by omega
          have HNX2 := Lib.hid hnx
          clear hnx HNX
          obtain ⟨k7, hk7⟩ : ∃ k7, 6 * (k + 1) = k7 := ⟨_, rfl⟩
          rw [hk7] at HNX2
          have HK7 := Lib.hid hk7
          clear hk7
          generalize 6 * k = k6 at *
          have hd6 : decide ((k6 : Int) < (e6 : Int)) = true := by simp; omega
          have hdv : decide (v < 0) = false := by simp; omega
          obtain ⟨wo1, rfl⟩ : ∃ wo1 : World, wo1 = wr := ⟨_, rfl⟩
          go_wp2_with fail
          refine HV.out.mono ?_
          rintro e w5 ⟨rfl, b5⟩
          have hown5 := own_below hown b5
          have hB5 := below_tr hB b5
          clear hown b5 hB
          go_wp2_with (at_builtin; refine wpList_append_own _ rfl _ _ 22 rfl w3.heap.size 3 i3 (.int .i64 0) 1 8 Try.underlying22 hi3 hz3a hz3b hz3c rfl (by decide) _ _ _ rfl (hown5.alloc _) ⟨w5.heap.size, 0, none⟩ 1 1 [.int .i64 v] rfl rfl (cell_one_new _ _ _) (by simp [Value.oneCell']) ?c3 ?c4 ?c5 ?_)
          case c3 => unfold maxLen; omega
          case c4 => omega
          case c5 => have := hB5.size; simp; omega
          intro v' w7 hown' hgrow _
          have hB7 := below_app hB5 hB5.size hown5 hgrow
          clear hgrow
          go_wp2
          go_roundg r'
          case rel => exact ⟨k + 1, acc ++ [v], by omega, by rw [HK7.out, ← HNX2.out], own_congr hown' (by simp) (by simp), by simp; omega, hB7, HDN⟩
          case measure => omega
      · have hgk : gk = 0 := by omega
        subst hgk
        have hdn : decL q ws [] = some acc := by rw [← hD.out]; rfl
        have he := HE4.out
        rw [hdn] at he
        have HE5 := Lib.hid he
        clear he hdn hD HE4
        have hke : 6 * k = e6 := by have := HE6.out; omega
        have hak : acc.length + 1 ≤ 549755813888 := by omega
        rw [hke]
        clear hke
        have hd6 : decide ((e6 : Int) < (e6 : Int)) = false := by simp
        obtain ⟨i3, hi3, hz3a, hz3b, hz3c⟩ := info_parts info3
        go_wp2_with (at_builtin; refine wpList_append_own _ rfl _ _ 22 rfl w3.heap.size 3 i3 (.int .i64 0) 1 8 Try.underlying22 hi3 hz3a hz3b hz3c rfl (by decide) _ _ _ rfl (hown.alloc _) ⟨wr.heap.size, 0, none⟩ 1 1 [.int .i64 106] rfl rfl (cell_one_new _ _ _) (by simp [Value.oneCell']) ?c3 ?c4 ?c5 ?_)
        case c3 => unfold maxLen; omega
        case c4 => omega
        case c5 => have := hB.size; simp; omega
        intro v' w7 hown' hgrow _
        have hB7 := below_app hB hB.size hown hgrow
        have hBw7 : Below w.heap.size w w7 := below_tr hB3 hB7
        obtain ⟨va, vc, rfl, hrd, hvc1, hvc2⟩ := own_rd3 (xs := (acc ++ [106]).map (Value.int .i64)) (own_congr hown' rfl (by simp))
        clear hgrow hown hown'
        go_wp2_with fail
        refine (refChars_any va (acc.length + 1) vc (acc ++ [106]) _ hrd (by omega)).mono ?_
        rintro e w8 ⟨vv, rfl, hown8, hb8⟩
        go_wp2
        go_ret2
        rw [HE5.out]
        exact ⟨vv, rfl, own_mono hown8 hBw7.size, below_tr hBw7 hb8⟩
  · have hvne : valueF (ws.drop e6) ≠ 106 := fun e => hwE ((value_stop _).1 e)
    have he := HE3.out
    rw [if_pos hwE] at he
    have HE4 := Lib.hid he
    generalize valueF (ws.drop e6) = vv at *
    have hvn : (vv != 106) = true := by simpa using hvne
    clear he HE3 hwE hvne
    go_wp2_with fail
    refine (HV7.out _ (Below.refl _ _)).mono ?_
    rintro e w3 ⟨rfl, b3⟩
    go_wp2
    go_ret2
    rw [HE4.out]
    exact retI_nil _ _ _ (below_tr hB2 b3)

end Go.Proofs.Ytofedeokliljkaa
