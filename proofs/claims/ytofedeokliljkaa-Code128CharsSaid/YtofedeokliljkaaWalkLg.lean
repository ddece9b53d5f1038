/-
  The walk of the statement Code128Minimal: it returns true. No condition.
-/
import Derived.Test.YtofedeokliljkaaPlainL
import Derived.Test.YtofedeokliljkaaWalkLd
import Derived.Laws.AppendOwnNone
namespace Go.Proofs.Ytofedeokliljkaa
open Go.RowKit

theorem checkF_cases (s : Int) (l : List Int) : (∃ c, c ≠ 0 ∧ checkF (s :: l) = (0, c)) ∨ (103 ≤ s ∧ s ≤ 105 ∧ (∀ v ∈ l, 0 ≤ v ∧ v ≤ 105) ∧ checkF (s :: l) = (chkL (s :: l), 0)) := by
  by_cases hi : inV 105 (s :: l) = false
  · left; exact ⟨3, by omega, by unfold checkF; simp only; rw [if_pos hi]⟩
  · by_cases hs : s < 103
    · left; exact ⟨19, by omega, by unfold checkF; simp only; rw [if_neg hi, if_pos hs]⟩
    · right
      have hm := inV_mem (by simpa using hi : inV 105 (s :: l) = true)
      have := hm s (by simp)
      exact ⟨by omega, by omega, fun v hv => hm v (by simp [hv]), by unfold checkF; simp only; rw [if_neg hi, if_neg hs]; rfl⟩

/-- What follows when the sequence with its check value stands. -/
theorem cmpF_cons {x y : Int} {a b : List Int} (h : cmpF (x :: a) (y :: b) = true) : x < y ∨ (x = y ∧ cmpF a b = true) := by
  simp only [cmpF] at h
  split at h
  · left; assumption
  · split at h
    · simp at h
    · right; exact ⟨by omega, h⟩

set_option maxRecDepth 100000 in
set_option maxHeartbeats 8000000 in
theorem code128Minimal_walk (s : Int) (a : Option Addr) (n cap : Nat) (l : List Int) (w : World) (h : RdI w a n l) (hnil : a = none → n = 0 ∧ cap = 0) :
    Calls Try.prog 9 #[.int .i64 s, .slice a n cap] w fun e w' => e = .returned (.bool true) ∧ Below w.heap.size w w' := by
  have hlen := h.length
  by_cases hn : 200 < n
  · have hd : decide (200 < (n : Int)) = true := by simp; omega
    clear hlen h hnil
    go_enter Try.func9, Try.ntmps9
    go_wp2_with fail
    refine (alive_any _).mono ?_
    rintro e w1 ⟨rfl, hb⟩
    go_wp2
    go_ret
    exact ⟨rfl, hb⟩
  have hd : decide (200 < (n : Int)) = false := by simp; omega
  obtain ⟨i3, hi3, hz3a, hz3b, hz3c⟩ := info_parts info3
  have own0 : (w.alloc (.cells #[.int .i64 s] 3)).ownsRow w.heap.size 3 1 (.slice (some ⟨w.heap.size, 0, none⟩) 1 1) 1 [.int .i64 s] := own_new w [.int .i64 s] 1 (Nat.le_refl _) rfl (by unfold maxLen; omega)
  have hBa : Below w.heap.size w (w.alloc (.cells #[.int .i64 s] 3)) := (Below.refl _ _).alloc (Nat.le_refl _) _
  have H := Lib.hid (h.below hBa)
  have HL := Lib.hid hlen
  have HN := Lib.hid hnil
  clear h hlen hnil
  go_enter Try.func9, Try.ntmps9
  go_upto_region 3 with fail
  go_cut [5] (fun v wx => wx.ownsRow w.heap.size 3 1 v (s :: l).length ((s :: l).map (Value.int .i64)) ∧ Below w.heap.size w wx)
  case first =>
    cases a with
    | none =>
      obtain ⟨hn0, hc0⟩ := HN.out rfl
      subst hn0 hc0
      have hl0 : l = [] := List.eq_nil_of_length_eq_zero HL.out
      subst hl0
      go_wp2_with (at_builtin; refine wpList_append_own_none rfl _ _ 22 rfl w.heap.size 3 i3 1 Try.underlying22 hi3 _ 1 _ rfl own0 rfl ?_)
      go_meet
      exact ⟨own0, hBa⟩
    | some ad =>
      have hrc := rd_cells H.out
      go_wp2_with (at_builtin; refine wpList_append_own _ rfl _ _ 22 rfl w.heap.size 3 i3 (.int .i64 0) 1 8 Try.underlying22 hi3 hz3a hz3b hz3c rfl (by decide) _ _ _ rfl own0 ad n cap (l.map (Value.int .i64)) rfl ?c2 hrc (by simp [Value.oneCell']) ?c3 ?c4 ?c5 ?_)
      case c2 => have := HL.out; simp; omega
      case c3 => unfold maxLen; omega
      case c4 => omega
      case c5 => exact hBa.size
      intro v' w3 hown' hgrow _
      have hB3 := below_grow1 hBa own0 (Nat.le_refl _) hBa.size hgrow
      have hfin : w3.ownsRow w.heap.size 3 1 v' (s :: l).length ((s :: l).map (Value.int .i64)) := own_congr hown' (by have := HL.out; simp; omega) (by simp)
      have HF := Lib.hid hfin
      clear hown' hgrow hfin hrc
      go_wp2_with fail
      go_meet
      exact ⟨HF.out, hB3⟩
  case rest =>
    obtain ⟨hown, hB⟩ := hcut
    obtain ⟨w3, rfl⟩ : ∃ w3 : World, w3 = wc := ⟨_, rfl⟩
    clear own0 hBa H HN
    obtain ⟨oa, oc, rfl, ro⟩ := own_rd hown
    have hll : l.length ≤ 200 := by have := HL.out; omega
    have HCK := Lib.hid (check_any oa _ oc (s :: l) w3 ro (by simp; omega))
    simp only [List.length_cons] at HCK hown ro ⊢
    clear ro
    rcases checkF_cases s l with ⟨c, hc, hck⟩ | ⟨hs1, hs2, hv, hck⟩
    · rw [hck] at HCK
      have hc2 : (c != 0) = true := by simpa using hc
      clear hck hc
      go_wp2_with fail
      refine HCK.out.mono ?_
      rintro e w' ⟨rfl, rfl⟩
      go_wp2_with fail
      refine (alive_any _).mono ?_
      rintro e wq ⟨rfl, bq⟩
      replace bq := below_tr hB bq
      go_wp2
      go_ret
      exact ⟨rfl, bq⟩
    rw [hck] at HCK
    have HV := Lib.hid hv
    clear hck hv
    obtain ⟨ck, hck⟩ : ∃ ck, chkL (s :: l) = ck := ⟨_, rfl⟩
    have hmin := fun (cs : List Int) => @minimal s l hll ⟨hs1, hs2⟩ HV.out cs
    rw [hck] at HCK hmin
    have HMIN := Lib.hid hmin
    have HCE := Lib.hid hck
    clear hck hmin
    go_wp2_with fail
    refine HCK.out.mono ?_
    rintro e w' ⟨rfl, rfl⟩
    go_wp2_with (at_builtin; refine wpList_append_own _ rfl _ _ 22 rfl w.heap.size 3 i3 (.int .i64 0) 1 8 Try.underlying22 hi3 hz3a hz3b hz3c rfl (by decide) _ _ _ rfl (hown.alloc _) ⟨w3.heap.size, 0, none⟩ 2 2 [.int .i64 ck, .int .i64 106] rfl rfl (cells_new _ _) (by simp [Value.oneCell']) ?c3 ?c4 ?c5 ?_)
    case c3 => unfold maxLen; omega
    case c4 => omega
    case c5 => have := hB.size; simp; omega
    intro v' w4 hown' hgrow _
    have hB4 := below_app hB hB.size hown hgrow
    have hown4 : w4.ownsRow w.heap.size 3 1 v' ((s :: l) ++ [ck, 106]).length (((s :: l) ++ [ck, 106]).map (Value.int .i64)) := own_congr hown' (by simp) (by simp)
    obtain ⟨other, hother⟩ : ∃ other, (s :: l) ++ [ck, 106] = other := ⟨_, rfl⟩
    have hol : other.length ≤ 203 := by rw [← hother]; simp; omega
    rw [hother] at hown4 HMIN
    clear hown' hgrow hown hother HCK
    obtain ⟨oa', oc', rfl, ro, oc1, oc2⟩ := own_rd3 hown4
    have HC := Lib.hid (chars_any oa' _ oc' other w4 ro (by omega) oc1 oc2)
    have RO := Lib.hid ro
    clear ro hown4 hB
    cases hcf : charsF other with
    | mk cs c =>
    rw [hcf] at HC
    go_wp2_with fail
    refine HC.out.mono ?_
    rintro e w5 hret
    obtain ⟨ca, cc, rfl, rc, b5⟩ := hret.open
    clear hret HC
    have RO5 := Lib.hid (RO.out.below b5)
    replace b5 := below_tr hB4 b5
    clear RO
    by_cases hc : c = 0
    · by_cases h0 : cs.length = 0
      · have hd1 : (c != 0) = false := by simpa using hc
        have hd2 : ((cs.length : Int) == 0) = true := by rw [h0]; rfl
        have HX := Lib.hid (And.intro hc h0)
        clear hc h0 hcf rc
        go_wp2_with fail
        refine (alive_any _).mono ?_
        rintro e wq ⟨rfl, bq⟩
        replace bq := below_tr b5 bq
        go_wp2
        go_ret
        exact ⟨rfl, bq⟩
      · subst hc
        obtain ⟨best, hbv, hb1, hb2, hcs, hb3, hb4⟩ := HMIN.out cs hcf h0
        have HBC := Lib.hid hb4
        have hd2 : ((cs.length : Int) == 0) = false := by simp only [beq_eq_false_iff_ne, ne_eq]; omega
        have HVA := Lib.hid (values_any ca _ cc cs w5 rc (by omega))
        rw [hbv] at HVA
        have RC0 := Lib.hid rc
        have HB3 := Lib.hid hb3
        clear hbv hcf rc hb4 h0 hb3 HMIN
        go_wp2_with fail
        refine HVA.out.mono ?_
        rintro e w6 hret
        obtain ⟨ba, bc, rfl, rb, bc1, bc2, b6⟩ := hret.open3
        clear hret HVA
        have RB := Lib.hid rb
        have RC := Lib.hid (RC0.out.below b6)
        have RO6 := Lib.hid (RO5.out.below b6)
        replace b6 := below_tr b5 b6
        clear rb RC0 RO5
        have hdl : decide (other.length < best.length) = false := by simp; omega
        have hdl' : decide ((other.length : Int) < (best.length : Int)) = false := by simp; omega
        go_wp2_with fail
        go_loopg [64] best.length (fun r x wr => ∃ i : Nat, i + r = best.length ∧ x = .int .i64 i ∧ Below w6.heap.size w6 wr ∧ Hid (best.length = other.length → cmpF (best.drop i) (other.drop i) = true))
        case atStart => exact ⟨0, by omega, rfl, Below.refl _ _, by have := HB3.out; simpa [Hid] using this⟩
        case round =>
          obtain ⟨i, hi, rfl, hBr, hcm⟩ := hrel
          by_cases hlt : i < best.length
          · by_cases hll2 : best.length < other.length
            · have hdq : decide (best.length < other.length) = true := by simpa using hll2
              have hdq' : decide ((best.length : Int) < (other.length : Int)) = true := by simpa using hll2
              go_wp2_with fail
              go_quiet (fail)
              go_wp2_with fail
              have hBq := below_drewN hBr nq
              have HC := Lib.hid (chars_any _ _ bc best (wr.drewN nq) (RB.out.below hBq) (by omega) bc1 bc2)
              rw [HBC.out] at HC
              simp only at HC
              have hBw := below_tr b6 hBq
              go_wp2_with fail
              refine HC.out.mono ?_
              rintro e w8 hret
              obtain ⟨xa, xc, rfl, r8, b8⟩ := hret.open
              clear hret
              have HI := Lib.hid (ints_self xa ca _ xc _ cc cs w8 r8 ((RC.out.below hBq).below b8))
              replace b8 := below_tr hBw b8
              clear r8 HC
              go_wp2_with fail
              refine HI.out.mono ?_
              rintro e w9 ⟨rfl, b9⟩
              replace b9 := below_tr b8 b9
              go_wp2_with fail
              refine (alive_any _).mono ?_
              rintro e wq ⟨rfl, bq⟩
              replace bq := below_tr b9 bq
              go_wp2
              go_ret
              exact ⟨rfl, bq⟩
            · have heq : best.length = other.length := by omega
              obtain ⟨bb, bo, x, e1, hcx, hdx⟩ := (RB.out.below hBr).at i hlt
              obtain ⟨ob, oo, y, e2, hcy, hdy⟩ := (RO6.out.below hBr).at i (by omega)
              have hcc := hcm.out heq
              rw [hdx, hdy] at hcc
              have hq1 : decide (best.length < other.length) = false := by simp; omega
              have hq2 : decide ((best.length : Int) < (other.length : Int)) = false := by simp; omega
              have hio : (i : Int) < (other.length : Int) := by omega
              have hib : (i : Int) < (best.length : Int) := by omega
              have HEQ := Lib.hid heq
              have HBA := Lib.hid e1
              subst e1 e2
              clear hdx hdy heq
              rcases cmpF_cons hcc with hxy | ⟨hxy, hrest⟩
              · have hdx : decide (x < y) = true := by simpa using hxy
                clear hcc
                go_wp2_with fail
                go_quiet (fail)
                go_wp2_with fail
                have hBq := below_drewN hBr nq
                have HC := Lib.hid (chars_any _ _ bc best (wr.drewN nq) (RB.out.below hBq) (by omega) bc1 bc2)
                rw [HBC.out] at HC
                simp only at HC
                have hBw := below_tr b6 hBq
                go_wp2_with fail
                refine HC.out.mono ?_
                rintro e w8 hret
                obtain ⟨xa, xc, rfl, r8, b8⟩ := hret.open
                clear hret
                have HI := Lib.hid (ints_self xa ca _ xc _ cc cs w8 r8 ((RC.out.below hBq).below b8))
                replace b8 := below_tr hBw b8
                clear r8 HC
                go_wp2_with fail
                refine HI.out.mono ?_
                rintro e w9 ⟨rfl, b9⟩
                replace b9 := below_tr b8 b9
                go_wp2_with fail
                refine (alive_any _).mono ?_
                rintro e wq ⟨rfl, bq⟩
                replace bq := below_tr b9 bq
                go_wp2
                go_ret
                exact ⟨rfl, bq⟩
              · subst hxy
                have hdx : decide (x < x) = false := by simp
                have HR := Lib.hid hrest
                clear hrest hcc hcm
                go_wp2_with fail
                go_quiet (fail)
                go_wp2_with fail
                go_quiet (fail)
                go_wp2
                go_roundg (best.length - (i + 1))
                case rel => exact ⟨i + 1, by omega, by go_num, by first | exact below_drewN (below_drewN hBr _) _ | exact below_drewN hBr _, Lib.hid (fun _ => HR.out)⟩
                case measure => omega
          · go_wp2_with fail
            have HC := Lib.hid (chars_any _ _ bc best wr (RB.out.below hBr) (by omega) bc1 bc2)
            rw [HBC.out] at HC
            simp only at HC
            have hBw := below_tr b6 hBr
            go_wp2_with fail
            refine HC.out.mono ?_
            rintro e w8 hret
            obtain ⟨xa, xc, rfl, r8, b8⟩ := hret.open
            clear hret
            have HI := Lib.hid (ints_self xa ca _ xc _ cc cs w8 r8 ((RC.out.below hBr).below b8))
            replace b8 := below_tr hBw b8
            clear r8 HC
            go_wp2_with fail
            refine HI.out.mono ?_
            rintro e w9 ⟨rfl, b9⟩
            replace b9 := below_tr b8 b9
            go_wp2_with fail
            refine (alive_any _).mono ?_
            rintro e wq ⟨rfl, bq⟩
            replace bq := below_tr b9 bq
            go_wp2
            go_ret
            exact ⟨rfl, bq⟩
    · have hd1 : (c != 0) = true := by simpa using hc
      have HX := Lib.hid hc
      clear hc hcf rc
      go_wp2_with fail
      refine (alive_any _).mono ?_
      rintro e wq ⟨rfl, bq⟩
      replace bq := below_tr b5 bq
      go_wp2
      go_ret
      exact ⟨rfl, bq⟩

end Go.Proofs.Ytofedeokliljkaa
