/-
  The walk of the statement Code128Detects: it returns true. No condition.
-/
import Derived.Test.YtofedeokliljkaaPlainK
import Derived.Test.YtofedeokliljkaaWalkLa
namespace Go.Proofs.Ytofedeokliljkaa
open Go.RowKit

/-- A store into a row of the call's own. -/
theorem own_set {w : World} {B e n cap g : Nat} {xs : List Value} (h : w.ownsRow B e 1 (.slice (some ⟨g, 0, none⟩) n cap) n xs) (i : Nat) (hi : i < n) (v : Value) :
    (∃ u, w.cell? ⟨g, i, none⟩ = some u) ∧ w.frozen? ⟨g, i, none⟩ = false ∧ (w.setCell ⟨g, i, none⟩ v).ownsRow B e 1 (.slice (some ⟨g, 0, none⟩) n cap) n (xs.set i v) ∧ B ≤ g ∧ g < w.heap.size := by
  obtain ⟨h1, h2⟩ := h
  rcases h2 with ⟨h2, _⟩ | ⟨g', cap', cur, e1, hB, hg, hc, hm, hsz, htk⟩
  · cases h2
  cases e1
  have hsz' : cap = cur.size := by simpa using hsz.symm
  have hic : i < cur.size := by omega
  refine ⟨⟨cur[i], ?_⟩, ?_, ?_, hB, (Array.getElem?_eq_some_iff.1 hg).1⟩
  · simp [World.cell?, hg, hic]
  · simp [World.frozen?, hg]
  · refine ⟨by simpa using h1, .inr ⟨g, cap, cur.setIfInBounds i v, rfl, hB, ?_, hc, hm, by simpa using hsz, ?_⟩⟩
    · rw [setCell_eq_setRow w g i cur _ _ v hg]
      exact setRow_heap w g _ _ _ _ hg
    · rw [← htk]; simp [List.take_set]

set_option maxRecDepth 100000 in
set_option maxHeartbeats 4000000 in
theorem code128Detects_walk (a : Option Addr) (n cap : Nat) (cs : List Int) (k x : Int) (w : World) (h : RdI w a n cs) (bk : -9223372036854775808 ≤ k ∧ k ≤ 9223372036854775807) (bx : -9223372036854775808 ≤ x ∧ x ≤ 9223372036854775807) :
    Calls Try.prog 7 #[.slice a n cap, .int .i64 k, .int .i64 x] w fun e w' => e = .returned (.bool true) ∧ Below w.heap.size w w' := by
  have hlen := h.length
  obtain ⟨bk1, bk2⟩ := bk
  obtain ⟨bx1, bx2⟩ := bx
  by_cases hn : 200 < n
  · have hd : decide (200 < (n : Int)) = true := by simp; omega
    clear hlen h
    go_enter Try.func7, Try.ntmps7
    go_wp2_with fail
    refine (alive_any _).mono ?_
    rintro e w1 ⟨rfl, hb⟩
    go_wp2
    go_ret
    exact ⟨rfl, hb⟩
  have hd : decide (200 < (n : Int)) = false := by simp; omega
  have HV := Lib.hid (values_any a n cap cs w h (by omega))
  have hcase := values_bad (cs := cs) (by omega)
  rcases hcase with ⟨c, hc, hv, _⟩ | ⟨h0, hb, hv⟩
  · rw [hv] at HV
    have hc2 : (c != 0) = true := by simpa using hc
    clear hv hlen hc h
    go_enter Try.func7, Try.ntmps7
    go_wp2_with fail
    refine HV.out.mono ?_
    rintro e w1 hret
    obtain ⟨va, vc, rfl, r1, b1⟩ := hret.open
    clear hret r1
    go_wp2_with fail
    refine (alive_any _).mono ?_
    rintro e w2 ⟨rfl, b2⟩
    replace b2 := below_tr b1 b2
    go_wp2
    go_ret
    exact ⟨rfl, b2⟩
  rw [hv] at HV
  have hsl := seq_len_two hb (by omega)
  have hsg := seq_len_ge hb (by omega) h0
  obtain ⟨vs, hvs⟩ : ∃ vs, vs = seqF cs ++ [chkL (seqF cs), 106] := ⟨_, rfl⟩
  have hl4 : 4 ≤ vs.length := by rw [hvs]; simp; omega
  have hl5 : vs.length ≤ 403 := by rw [hvs]; simp; omega
  have HDT := Lib.hid (fun i y => detects hb (by omega) vs hvs i y)
  rw [← hvs] at HV
  clear hv hvs hsl hsg h0 hb hlen
  have hq4 : decide ((vs.length : Int) < 4) = false := by simp; omega
  simp only at HV
  go_enter Try.func7, Try.ntmps7
  go_wp2_with fail
  refine HV.out.mono ?_
  rintro e w1 hret
  obtain ⟨va, vc, rfl, r1, vc1, vc2, b1⟩ := hret.open3
  clear hret HV
  have R1 := Lib.hid r1; clear r1
  by_cases c1 : k < 0
  · have hd1 : decide (k < 0) = true := by simpa using c1
    go_wp2_with fail
    refine (alive_any _).mono ?_
    rintro e w2 ⟨rfl, b2⟩
    replace b2 := below_tr b1 b2
    go_wp2
    go_ret
    exact ⟨rfl, b2⟩
  obtain ⟨k, rfl⟩ := Int.eq_ofNat_of_zero_le (show 0 ≤ k by omega)
  have hd1 : decide ((k : Int) < 0) = false := by simp
  by_cases c2 : vs.length ≤ k + 1
  · have hd2 : decide ((vs.length : Int) - 1 ≤ (k : Int)) = true := by simp; omega
    go_wp2_with fail
    refine (alive_any _).mono ?_
    rintro e w2 ⟨rfl, b2⟩
    replace b2 := below_tr b1 b2
    go_wp2
    go_ret
    exact ⟨rfl, b2⟩
  have hd2 : decide ((vs.length : Int) - 1 ≤ (k : Int)) = false := by simp; omega
  by_cases c3 : x < 0
  · have hd3 : decide (x < 0) = true := by simpa using c3
    go_wp2_with fail
    refine (alive_any _).mono ?_
    rintro e w2 ⟨rfl, b2⟩
    replace b2 := below_tr b1 b2
    go_wp2
    go_ret
    exact ⟨rfl, b2⟩
  have hd3 : decide (x < 0) = false := by simpa using c3
  by_cases c4 : 105 < x
  · have hd4 : decide (105 < x) = true := by simpa using c4
    go_wp2_with fail
    refine (alive_any _).mono ?_
    rintro e w2 ⟨rfl, b2⟩
    replace b2 := below_tr b1 b2
    go_wp2
    go_ret
    exact ⟨rfl, b2⟩
  have hd4 : decide (105 < x) = false := by simpa using c4
  obtain ⟨vb, vo, z, rfl, hcell, hdz⟩ := R1.out.at k (by omega)
  have hz : vs.getD k 0 = z := by rw [List.getD_eq_getElem?_getD, getElem?_of_drop hdz]; rfl
  have HZ := Lib.hid hz
  clear hz hdz
  by_cases c5 : z = x
  · have hd5 : (z == x) = true := by simpa using c5
    have C5 := Lib.hid c5; clear c5
    go_wp2_with fail
    refine (alive_any _).mono ?_
    rintro e w2 ⟨rfl, b2⟩
    replace b2 := below_tr b1 b2
    go_wp2
    go_ret
    exact ⟨rfl, b2⟩
  have hd5 : (z == x) = false := by simpa using c5
  by_cases c6 : (0 < k ∧ k % 103 = 0 ∧ k + 2 ≠ vs.length)
  · obtain ⟨c61, c62, c63⟩ := c6
    have hd6 : decide (0 < k) = true := by simpa using c61
    have hd6' : decide (0 < (k : Int)) = true := by simpa using c61
    have hd7 : ((k : Int) % 103 == 0) = true := by simp; omega
    have hd8 : ((k : Int) != (vs.length : Int) - 2) = true := by simp; omega
    have C62 := Lib.hid c62; have C63 := Lib.hid c63
    clear c62 c63
    go_wp2_with fail
    refine (alive_any _).mono ?_
    rintro e w2 ⟨rfl, b2⟩
    replace b2 := below_tr b1 b2
    go_wp2
    go_ret
    exact ⟨rfl, b2⟩
  have hdt := HDT.out k x (by omega) (by omega) (by omega) (by rw [HZ.out]; exact c5) c6
  obtain ⟨hdt1, hdt2⟩ := hdt
  have hcF : charsF (vs.set k x) = ([], (charsF (vs.set k x)).2) := by rw [← hdt2]
  generalize hcc : (charsF (vs.set k x)).2 = cc at *
  have HCF := Lib.hid hcF
  have hcc2 : (cc != 0) = true := by simpa using hdt1
  clear hdt1 hdt2 hcF hcc
  obtain ⟨i3, hi3, hz3a, hz3b, hz3c⟩ := info_parts info3
  have C6 := Lib.hid c6
  have C5 := Lib.hid c5
  clear c5 c6
  by_cases c7 : 0 < k
  · have hd6 : decide (0 < k) = true := by simpa using c7
    have hd6' : decide (0 < (k : Int)) = true := by simpa using c7
    by_cases c8 : k % 103 = 0
    · have hd7 : ((k : Int) % 103 == 0) = true := by simp; omega
      have hd8 : ((k : Int) != (vs.length : Int) - 2) = false := by have := C6.out; simp; omega
      have C8 := Lib.hid c8; clear c8
      have hBa : Below w1.heap.size w1 (w1.alloc (.cells #[] 3)) := (Below.refl _ _).alloc (Nat.le_refl _) _
      have own0 : (w1.alloc (.cells #[] 3)).ownsRow w1.heap.size 3 1 (.slice (some ⟨w1.heap.size, 0, none⟩) 0 0) 0 [] := own_new w1 [] 0 (Nat.le_refl _) rfl (by unfold maxLen; omega)
      have hrc := rd_cells (R1.out.below hBa)
      go_wp2_with (at_builtin; refine wpList_append_own _ rfl _ _ 22 rfl w1.heap.size 3 i3 (.int .i64 0) 1 8 Try.underlying22 hi3 hz3a hz3b hz3c rfl (by decide) _ _ _ rfl own0 ⟨vb, vo, none⟩ vs.length vc (vs.map (Value.int .i64)) rfl (by simp) hrc (by simp [Value.oneCell']) ?c3 ?c4 ?c5 ?_)
      case c3 => unfold maxLen; omega
      case c4 => omega
      case c5 => exact hBa.size
      intro v' w3 hown' hgrow _
      have hB3 : Below w1.heap.size w1 w3 := below_grow1 hBa own0 (Nat.le_refl _) hBa.size hgrow
      have hown3 : w3.ownsRow w1.heap.size 3 1 v' vs.length (vs.map (Value.int .i64)) := own_congr hown' (by simp) (by simp)
      obtain ⟨g, c', rfl⟩ : ∃ g c', v' = .slice (some ⟨g, 0, none⟩) vs.length c' := by
        rcases hown3.2 with ⟨_, e⟩ | ⟨g, c', cur, e, _⟩
        · omega
        · exact ⟨g, c', e⟩
      obtain ⟨⟨u, hu⟩, hfz, hown4, hBg, hgl⟩ := own_set hown3 k (by omega) (.int .i64 x)
      have hB4 : Below w1.heap.size w1 (w3.setCell ⟨g, k, none⟩ (.int .i64 x)) := hB3.setCell hBg _
      rw [← List.map_set] at hown4
      obtain ⟨a4, c4', e4, hrd, hc1', hc2'⟩ := own_rd3 hown4
      cases e4
      have HC := Lib.hid (chars_any _ _ c' (vs.set k x) _ hrd (by omega) hc1' hc2')
      rw [HCF.out] at HC
      have hB5 := below_tr b1 hB4
      clear hown' hgrow hown3 hown4 hB3 hrc own0 hBa hrd
      go_wp2_with fail
      refine HC.out.mono ?_
      rintro e w6 hret
      obtain ⟨ra, rc, rfl, r6, b6⟩ := hret.open
      clear hret r6
      replace b6 := below_tr hB5 b6
      go_wp2_with fail
      refine (alive_any _).mono ?_
      rintro e w7 ⟨rfl, b7⟩
      replace b7 := below_tr b6 b7
      go_wp2
      go_ret
      exact ⟨rfl, b7⟩
    · have hd7 : ((k : Int) % 103 == 0) = false := by simp; omega
      have C8 := Lib.hid c8; clear c8
      have hBa : Below w1.heap.size w1 (w1.alloc (.cells #[] 3)) := (Below.refl _ _).alloc (Nat.le_refl _) _
      have own0 : (w1.alloc (.cells #[] 3)).ownsRow w1.heap.size 3 1 (.slice (some ⟨w1.heap.size, 0, none⟩) 0 0) 0 [] := own_new w1 [] 0 (Nat.le_refl _) rfl (by unfold maxLen; omega)
      have hrc := rd_cells (R1.out.below hBa)
      go_wp2_with (at_builtin; refine wpList_append_own _ rfl _ _ 22 rfl w1.heap.size 3 i3 (.int .i64 0) 1 8 Try.underlying22 hi3 hz3a hz3b hz3c rfl (by decide) _ _ _ rfl own0 ⟨vb, vo, none⟩ vs.length vc (vs.map (Value.int .i64)) rfl (by simp) hrc (by simp [Value.oneCell']) ?c3 ?c4 ?c5 ?_)
      case c3 => unfold maxLen; omega
      case c4 => omega
      case c5 => exact hBa.size
      intro v' w3 hown' hgrow _
      have hB3 : Below w1.heap.size w1 w3 := below_grow1 hBa own0 (Nat.le_refl _) hBa.size hgrow
      have hown3 : w3.ownsRow w1.heap.size 3 1 v' vs.length (vs.map (Value.int .i64)) := own_congr hown' (by simp) (by simp)
      obtain ⟨g, c', rfl⟩ : ∃ g c', v' = .slice (some ⟨g, 0, none⟩) vs.length c' := by
        rcases hown3.2 with ⟨_, e⟩ | ⟨g, c', cur, e, _⟩
        · omega
        · exact ⟨g, c', e⟩
      obtain ⟨⟨u, hu⟩, hfz, hown4, hBg, hgl⟩ := own_set hown3 k (by omega) (.int .i64 x)
      have hB4 : Below w1.heap.size w1 (w3.setCell ⟨g, k, none⟩ (.int .i64 x)) := hB3.setCell hBg _
      rw [← List.map_set] at hown4
      obtain ⟨a4, c4', e4, hrd, hc1', hc2'⟩ := own_rd3 hown4
      cases e4
      have HC := Lib.hid (chars_any _ _ c' (vs.set k x) _ hrd (by omega) hc1' hc2')
      rw [HCF.out] at HC
      have hB5 := below_tr b1 hB4
      clear hown' hgrow hown3 hown4 hB3 hrc own0 hBa hrd
      go_wp2_with fail
      refine HC.out.mono ?_
      rintro e w6 hret
      obtain ⟨ra, rc, rfl, r6, b6⟩ := hret.open
      clear hret r6
      replace b6 := below_tr hB5 b6
      go_wp2_with fail
      refine (alive_any _).mono ?_
      rintro e w7 ⟨rfl, b7⟩
      replace b7 := below_tr b6 b7
      go_wp2
      go_ret
      exact ⟨rfl, b7⟩
  · have hd6 : decide (0 < k) = false := by simpa using c7
    have hd6' : decide (0 < (k : Int)) = false := by simpa using c7
    have hBa : Below w1.heap.size w1 (w1.alloc (.cells #[] 3)) := (Below.refl _ _).alloc (Nat.le_refl _) _
    have own0 : (w1.alloc (.cells #[] 3)).ownsRow w1.heap.size 3 1 (.slice (some ⟨w1.heap.size, 0, none⟩) 0 0) 0 [] := own_new w1 [] 0 (Nat.le_refl _) rfl (by unfold maxLen; omega)
    have hrc := rd_cells (R1.out.below hBa)
    go_wp2_with (at_builtin; refine wpList_append_own _ rfl _ _ 22 rfl w1.heap.size 3 i3 (.int .i64 0) 1 8 Try.underlying22 hi3 hz3a hz3b hz3c rfl (by decide) _ _ _ rfl own0 ⟨vb, vo, none⟩ vs.length vc (vs.map (Value.int .i64)) rfl (by simp) hrc (by simp [Value.oneCell']) ?c3 ?c4 ?c5 ?_)
    case c3 => unfold maxLen; omega
    case c4 => omega
    case c5 => exact hBa.size
    intro v' w3 hown' hgrow _
    have hB3 : Below w1.heap.size w1 w3 := below_grow1 hBa own0 (Nat.le_refl _) hBa.size hgrow
    have hown3 : w3.ownsRow w1.heap.size 3 1 v' vs.length (vs.map (Value.int .i64)) := own_congr hown' (by simp) (by simp)
    obtain ⟨g, c', rfl⟩ : ∃ g c', v' = .slice (some ⟨g, 0, none⟩) vs.length c' := by
      rcases hown3.2 with ⟨_, e⟩ | ⟨g, c', cur, e, _⟩
      · omega
      · exact ⟨g, c', e⟩
    obtain ⟨⟨u, hu⟩, hfz, hown4, hBg, hgl⟩ := own_set hown3 k (by omega) (.int .i64 x)
    have hB4 : Below w1.heap.size w1 (w3.setCell ⟨g, k, none⟩ (.int .i64 x)) := hB3.setCell hBg _
    rw [← List.map_set] at hown4
    obtain ⟨a4, c4', e4, hrd, hc1', hc2'⟩ := own_rd3 hown4
    cases e4
    have HC := Lib.hid (chars_any _ _ c' (vs.set k x) _ hrd (by omega) hc1' hc2')
    rw [HCF.out] at HC
    have hB5 := below_tr b1 hB4
    clear hown' hgrow hown3 hown4 hB3 hrc own0 hBa hrd
    go_wp2_with fail
    refine HC.out.mono ?_
    rintro e w6 hret
    obtain ⟨ra, rc, rfl, r6, b6⟩ := hret.open
    clear hret r6
    replace b6 := below_tr hB5 b6
    go_wp2_with fail
    refine (alive_any _).mono ?_
    rintro e w7 ⟨rfl, b7⟩
    replace b7 := below_tr b6 b7
    go_wp2
    go_ret
    exact ⟨rfl, b7⟩

end Go.Proofs.Ytofedeokliljkaa
