/-
  The walks of interpret and Chars of package code128. Condition: fewer than 2^40 values.
-/
import Derived.Test.YtofedeokliljkaaWalkP
namespace Go.Proofs.Ytofedeokliljkaa
open Go.RowKit

theorem cells_new {e : Nat} (w : World) (xs : List Value) : ∀ j u, xs[j]? = some u → (w.alloc (.cells xs.toArray e)).cell? ((⟨w.heap.size, 0, none⟩ : Addr).add j) = some u := by
  intro j u hu
  have : (⟨w.heap.size, 0, none⟩ : Addr).add j = ⟨w.heap.size, j, none⟩ := by
    unfold Addr.add
    split
    · rename_i h; subst h; rfl
    · simp
  rw [this, World.cell?_alloc_at _ _ _ _ rfl]
  simpa using hu

theorem intF_long (s v : Int) (acc r : List Int) (h : 102 < v) : intF s acc (v :: r) = ([], 22) := by
  rw [intF.eq_def]
  simp only
  rw [if_pos h]

theorem intF_fnc1 (s v : Int) (acc r : List Int) (h : v = 102) : intF s acc (v :: r) = intF s (acc ++ [256]) r := by
  rw [intF.eq_def]
  simp only
  rw [if_neg (by omega), if_pos h]

theorem intF_pair (s v : Int) (acc r : List Int) (h : s = 4 ∧ v ≤ 99) : intF s acc (v :: r) = intF s (acc ++ [48 + v / 10, 48 + v % 10]) r := by
  rw [intF.eq_def]
  simp only
  rw [if_neg (by omega), if_neg (by omega), if_pos h]

theorem intF_text (s v : Int) (acc r : List Int) (h : s ≠ 4 ∧ v ≤ 95) : intF s acc (v :: r) = intF s (acc ++ [charF v s]) r := by
  rw [intF.eq_def]
  simp only
  rw [if_neg (by omega), if_neg (by omega), if_neg (by omega), if_pos h.2]

theorem intF_fnc3 (s v : Int) (acc r : List Int) (h : s ≠ 4 ∧ v = 96) : intF s acc (v :: r) = intF s (acc ++ [258]) r := by
  rw [intF.eq_def]
  simp only
  rw [if_neg (by omega), if_neg (by omega), if_neg (by omega), if_neg (by omega), if_pos h.2]

theorem intF_fnc2 (s v : Int) (acc r : List Int) (h : s ≠ 4 ∧ v = 97) : intF s acc (v :: r) = intF s (acc ++ [257]) r := by
  rw [intF.eq_def]
  simp only
  rw [if_neg (by omega), if_neg (by omega), if_neg (by omega), if_neg (by omega), if_neg (by omega), if_pos h.2]

theorem intF_codeC (s v : Int) (acc r : List Int) (h : s ≠ 4 ∧ v = 99) : intF s acc (v :: r) = intF 4 acc r := by
  rw [intF.eq_def]
  simp only
  rw [if_neg (by omega), if_neg (by omega), if_neg (by omega), if_neg (by omega), if_neg (by omega), if_neg (by omega), if_neg (by omega), if_pos h.2]

theorem intF_codeB (s v : Int) (acc r : List Int) (h : v = 100 ∧ s ≠ 3) : intF s acc (v :: r) = intF 3 acc r := by
  rw [intF.eq_def]
  simp only
  rw [if_neg (by omega), if_neg (by omega), if_neg (by omega), if_neg (by omega), if_neg (by omega), if_neg (by omega), if_neg (by omega), if_neg (by omega), if_pos h]

theorem intF_codeA (s v : Int) (acc r : List Int) (h : v = 101 ∧ s ≠ 2) : intF s acc (v :: r) = intF 2 acc r := by
  rw [intF.eq_def]
  simp only
  rw [if_neg (by omega), if_neg (by omega), if_neg (by omega), if_neg (by omega), if_neg (by omega), if_neg (by omega), if_neg (by omega), if_neg (by omega), if_neg (by omega), if_pos h]

theorem intF_fnc4 (s v : Int) (acc r : List Int) (h : (v = 100 ∧ s = 3) ∨ (v = 101 ∧ s = 2)) : intF s acc (v :: r) = intF s (acc ++ [259]) r := by
  rw [intF.eq_def]
  simp only
  rw [if_neg (by omega), if_neg (by omega), if_neg (by omega), if_neg (by omega), if_neg (by omega), if_neg (by omega), if_neg (by omega), if_neg (by omega), if_neg (by omega), if_neg (by omega)]

theorem intF_shift0 (s v : Int) (acc : List Int) (h : s ≠ 4 ∧ v = 98) : intF s acc [v] = ([], 22) := by
  rw [intF.eq_def]
  simp only
  rw [if_neg (by omega), if_neg (by omega), if_neg (by omega), if_neg (by omega), if_neg (by omega), if_neg (by omega), if_pos h.2]

theorem intF_shift1 (s v u : Int) (acc q : List Int) (h : s ≠ 4 ∧ v = 98) : intF s acc (v :: u :: q) = if 95 < u then ([], 22) else intF s (acc ++ [charF u (5 - s)]) q := by
  rw [intF.eq_def]
  simp only
  rw [if_neg (by omega), if_neg (by omega), if_neg (by omega), if_neg (by omega), if_neg (by omega), if_neg (by omega), if_pos h.2]

theorem retI_nil (c : Int) (w w' : World) (h : Below w.heap.size w w') : RetI [] c w (.returned (.tuple #[.slice none 0 0, .int .i64 c])) w' := ⟨_, rfl, World.ownsRow_nil _ _ _ _, h⟩

set_option maxRecDepth 100000 in
set_option maxHeartbeats 8000000 in
theorem interpret_any (a : Option Addr) (n cap : Nat) (vs : List Int) (s0 : Int) (w : World) (h : RdI w a n vs) (hn : n ≤ 1099511627776) (hv : ∀ v ∈ vs, 0 ≤ v ∧ v ≤ 200) (hs1 : 2 ≤ s0) (hs2 : s0 ≤ 4) :
    Calls Try.prog 26 #[.slice a n cap, .int .i64 s0] w (RetI (intF s0 [] vs).1 (intF s0 [] vs).2 w) := by
  obtain ⟨i3, hi3, hz3a, hz3b, hz3c⟩ := info_parts info3
  have HV := Lib.hid hv; have H := Lib.hid h; have HL := Lib.hid h.length; clear h hv
  go_enter Try.func26, Try.ntmps26
  go_wp2
  go_loopw [1, 6, 7] (fun st v i wr => ∃ (k : Nat) (s : Int) (acc : List Int), k ≤ n ∧ 2 ≤ s ∧ s ≤ 4 ∧ i = .int .i64 k ∧ st = .int .i64 s ∧ wr.ownsRow w.heap.size 3 1 v acc.length (acc.map (Value.int .i64)) ∧ Below w.heap.size w wr ∧ acc.length ≤ 2 * k ∧ Hid (intF s acc (vs.drop k) = intF s0 [] vs)) (fun _ _ i _ => n - (intOf i).toNat)
  case atStart => exact ⟨0, s0, [], by omega, hs1, hs2, rfl, rfl, World.ownsRow_nil _ _ _ _, Below.refl _ _, by simp, rfl⟩
  case round =>
    obtain ⟨k, s, acc, hk, hsl, hsh, rfl, rfl, hown, hB, hal, hR⟩ := hrel
    by_cases hlt : k < n
    · obtain ⟨b, off, v, rfl, hcell, hd⟩ := (H.out.below hB).at k hlt
      have hvv := HV.out v (List.mem_of_mem_drop (by rw [hd]; simp))
      obtain ⟨hv0, hv1⟩ := hvv
      have hr := hR.out
      rw [hd] at hr
      have HR := Lib.hid hr; have HD := Lib.hid hd; clear hr hd hR
      by_cases c1 : 102 < v
      · have hn := intF_long s v acc (vs.drop (k + 1)) c1
        have HN := Lib.hid hn; clear hn
        go_wp2
        go_ret2
        rw [← HR.out, HN.out]
        exact retI_nil 22 _ _ hB
      by_cases c2 : v = 102
      · subst c2
        have hn := intF_fnc1 s 102 acc (vs.drop (k + 1)) rfl
        have HN := Lib.hid hn; clear hn
        go_wp2_with (at_builtin; refine wpList_append_own _ rfl _ _ 22 rfl w.heap.size 3 i3 (.int .i64 0) 1 8 Try.underlying22 hi3 hz3a hz3b hz3c rfl (by decide) _ _ _ rfl (hown.alloc _) ⟨wr.heap.size, 0, none⟩ 1 1 [.int .i64 256] rfl rfl (cell_one_new _ _ _) (by simp [Value.oneCell']) ?c3 ?c4 ?c5 ?_)
        case c3 => unfold maxLen; omega
        case c4 => omega
        case c5 => have := hB.size; simp; omega
        intro v' w1 hown' hgrow _
        have hB3 := below_app hB hB.size hown hgrow
        clear hgrow hown
        go_wp2
        go_roundw
        case rel => exact ⟨k + 1, s, acc ++ [256], by omega, by omega, by omega, by go_num, rfl, own_congr hown' (by simp) (by simp), hB3, by simp; omega, by rw [← HR.out, HN.out]; rfl⟩
        case measure => simp [intOf]; omega
      have hd102 : (v == 102) = false := beq_eq_false_iff_ne.2 c2
      by_cases c3 : s = 4 ∧ v ≤ 99
      · obtain ⟨c31, c32⟩ := c3
        subst c31
        have hn := intF_pair 4 v acc (vs.drop (k + 1)) ⟨rfl, c32⟩
        have HN := Lib.hid hn; clear hn
        have hd99 : decide (v ≤ 99) = true := by simpa using c32
        go_wp2_with (at_builtin; refine wpList_append_own _ rfl _ _ 22 rfl w.heap.size 3 i3 (.int .i64 0) 1 8 Try.underlying22 hi3 hz3a hz3b hz3c rfl (by decide) _ _ _ rfl (hown.alloc _) ⟨wr.heap.size, 0, none⟩ 2 2 [.int .i64 (48 + v / 10), .int .i64 (48 + v % 10)] rfl rfl (cells_new _ _) (by simp [Value.oneCell']) ?c3 ?c4 ?c5 ?_)
        case c3 => unfold maxLen; omega
        case c4 => omega
        case c5 => have := hB.size; simp; omega
        intro v' w1 hown' hgrow _
        have hB3 := below_app hB hB.size hown hgrow
        clear hgrow hown
        go_wp2
        go_roundw
        case rel => exact ⟨k + 1, 4, acc ++ [48 + v / 10, 48 + v % 10], by omega, by omega, by omega, by go_num, rfl, own_congr hown' (by simp) (by simp), hB3, by simp; omega, by rw [← HR.out, HN.out]; rfl⟩
        case measure => simp [intOf]; omega
      by_cases c4 : s = 4
      · subst c4
        have hd99 : decide (v ≤ 99) = false := by simp; omega
        by_cases c5 : v = 100
        · subst c5
          have hn := intF_codeB 4 100 acc (vs.drop (k + 1)) (by omega)
          have HN := Lib.hid hn; clear hn
          go_wp2
          go_roundw
          case rel => exact ⟨k + 1, 3, acc, by omega, by omega, by omega, by go_num, rfl, hown, hB, by omega, by rw [← HR.out, HN.out]; rfl⟩
          case measure => simp [intOf]; omega
        · have c6 : v = 101 := by omega
          subst c6
          have hn := intF_codeA 4 101 acc (vs.drop (k + 1)) (by omega)
          have HN := Lib.hid hn; clear hn
          go_wp2
          go_roundw
          case rel => exact ⟨k + 1, 2, acc, by omega, by omega, by omega, by go_num, rfl, hown, hB, by omega, by rw [← HR.out, HN.out]; rfl⟩
          case measure => simp [intOf]; omega
      have hs4 : (s == 4) = false := beq_eq_false_iff_ne.2 c4
      by_cases c5 : v ≤ 95
      · have hn := intF_text s v acc (vs.drop (k + 1)) ⟨c4, c5⟩
        have HN := Lib.hid hn; clear hn
        go_wp2_with (first | (go_at_call 43; refine (charOf_any _ _ _ (by omega) (by omega)).mono ?_; rintro e w' ⟨rfl, rfl⟩) | (at_builtin; refine wpList_append_own _ rfl _ _ 22 rfl w.heap.size 3 i3 (.int .i64 0) 1 8 Try.underlying22 hi3 hz3a hz3b hz3c rfl (by decide) _ _ _ rfl (hown.alloc _) ⟨wr.heap.size, 0, none⟩ 1 1 [.int .i64 (charF v s)] rfl rfl (cell_one_new _ _ _) (by simp [Value.oneCell']) ?c3 ?c4 ?c5 ?_))
        case c3 => unfold maxLen; omega
        case c4 => omega
        case c5 => have := hB.size; simp; omega
        intro v' w1 hown' hgrow _
        have hB3 := below_app hB hB.size hown hgrow
        clear hgrow hown
        go_wp2
        go_roundw
        case rel => exact ⟨k + 1, s, acc ++ [charF v s], by omega, by omega, by omega, by go_num, rfl, own_congr hown' (by simp) (by simp), hB3, by simp; omega, by rw [← HR.out, HN.out]; rfl⟩
        case measure => simp [intOf]; omega
      by_cases c6 : v = 96
      · subst c6
        have hn := intF_fnc3 s 96 acc (vs.drop (k + 1)) ⟨c4, rfl⟩
        have HN := Lib.hid hn; clear hn
        go_wp2_with (at_builtin; refine wpList_append_own _ rfl _ _ 22 rfl w.heap.size 3 i3 (.int .i64 0) 1 8 Try.underlying22 hi3 hz3a hz3b hz3c rfl (by decide) _ _ _ rfl (hown.alloc _) ⟨wr.heap.size, 0, none⟩ 1 1 [.int .i64 258] rfl rfl (cell_one_new _ _ _) (by simp [Value.oneCell']) ?c3 ?c4 ?c5 ?_)
        case c3 => unfold maxLen; omega
        case c4 => omega
        case c5 => have := hB.size; simp; omega
        intro v' w1 hown' hgrow _
        have hB3 := below_app hB hB.size hown hgrow
        clear hgrow hown
        go_wp2
        go_roundw
        case rel => exact ⟨k + 1, s, acc ++ [258], by omega, by omega, by omega, by go_num, rfl, own_congr hown' (by simp) (by simp), hB3, by simp; omega, by rw [← HR.out, HN.out]; rfl⟩
        case measure => simp [intOf]; omega
      by_cases c7 : v = 97
      · subst c7
        have hn := intF_fnc2 s 97 acc (vs.drop (k + 1)) ⟨c4, rfl⟩
        have HN := Lib.hid hn; clear hn
        go_wp2_with (at_builtin; refine wpList_append_own _ rfl _ _ 22 rfl w.heap.size 3 i3 (.int .i64 0) 1 8 Try.underlying22 hi3 hz3a hz3b hz3c rfl (by decide) _ _ _ rfl (hown.alloc _) ⟨wr.heap.size, 0, none⟩ 1 1 [.int .i64 257] rfl rfl (cell_one_new _ _ _) (by simp [Value.oneCell']) ?c3 ?c4 ?c5 ?_)
        case c3 => unfold maxLen; omega
        case c4 => omega
        case c5 => have := hB.size; simp; omega
        intro v' w1 hown' hgrow _
        have hB3 := below_app hB hB.size hown hgrow
        clear hgrow hown
        go_wp2
        go_roundw
        case rel => exact ⟨k + 1, s, acc ++ [257], by omega, by omega, by omega, by go_num, rfl, own_congr hown' (by simp) (by simp), hB3, by simp; omega, by rw [← HR.out, HN.out]; rfl⟩
        case measure => simp [intOf]; omega
      by_cases c8 : v = 98
      · subst c8
        by_cases hk1 : k + 1 < n
        · obtain ⟨b', off', u, e', hcu, hdu⟩ := (H.out.below hB).at (k + 1) hk1
          cases e'
          have huv := HV.out u (List.mem_of_mem_drop (by rw [hdu]; simp))
          obtain ⟨hu0, hu1⟩ := huv
          have hn := intF_shift1 s 98 u acc (vs.drop (k + 1 + 1)) ⟨c4, rfl⟩
          rw [← hdu] at hn
          have hke : ((k : Int) + 1 == (n : Int)) = false := beq_eq_false_iff_ne.2 (by omega)
          by_cases c9 : 95 < u
          · rw [if_pos c9] at hn
            have HN := Lib.hid hn; clear hn hdu
            go_wp2
            go_ret2
            rw [← HR.out, HN.out]
            exact retI_nil 22 _ _ hB
          · rw [if_neg c9] at hn
            have HN := Lib.hid hn; clear hn hdu
            go_wp2_with (first | (go_at_call 43; refine (charOf_any _ _ _ (by omega) (by omega)).mono ?_; rintro e w' ⟨rfl, rfl⟩) | (at_builtin; refine wpList_append_own _ rfl _ _ 22 rfl w.heap.size 3 i3 (.int .i64 0) 1 8 Try.underlying22 hi3 hz3a hz3b hz3c rfl (by decide) _ _ _ rfl (hown.alloc _) ⟨wr.heap.size, 0, none⟩ 1 1 [.int .i64 (charF u (5 - s))] rfl rfl (cell_one_new _ _ _) (by simp [Value.oneCell']) ?c3 ?c4 ?c5 ?_))
            case c3 => unfold maxLen; omega
            case c4 => omega
            case c5 => have := hB.size; simp; omega
            intro v' w1 hown' hgrow _
            have hB3 := below_app hB hB.size hown hgrow
            clear hgrow hown
            go_wp2
            go_roundw
            case rel => exact ⟨k + 1 + 1, s, acc ++ [charF u (5 - s)], by omega, by omega, by omega, by go_num, rfl, own_congr hown' (by simp) (by simp), hB3, by simp; omega, by rw [← HR.out, HN.out]; rfl⟩
            case measure => simp [intOf]; omega
        · have hke : ((k : Int) + 1 == (n : Int)) = true := beq_iff_eq.2 (by omega)
          have hn : intF s acc (98 :: vs.drop (k + 1)) = ([], 22) := by rw [drop_all (show vs.length ≤ k + 1 by rw [HL.out]; omega)]; exact intF_shift0 s 98 acc ⟨c4, rfl⟩
          have HN := Lib.hid hn; clear hn
          go_wp2
          go_ret2
          rw [← HR.out, HN.out]
          exact retI_nil 22 _ _ hB
      by_cases c9 : v = 99
      · subst c9
        have hn := intF_codeC s 99 acc (vs.drop (k + 1)) ⟨c4, rfl⟩
        have HN := Lib.hid hn; clear hn
        go_wp2
        go_roundw
        case rel => exact ⟨k + 1, 4, acc, by omega, by omega, by omega, by go_num, rfl, hown, hB, by omega, by rw [← HR.out, HN.out]; rfl⟩
        case measure => simp [intOf]; omega
      by_cases c10 : v = 100
      · subst c10
        by_cases c11 : s = 3
        · subst c11
          have hn := intF_fnc4 3 100 acc (vs.drop (k + 1)) (by omega)
          have HN := Lib.hid hn; clear hn
          go_wp2_with (at_builtin; refine wpList_append_own _ rfl _ _ 22 rfl w.heap.size 3 i3 (.int .i64 0) 1 8 Try.underlying22 hi3 hz3a hz3b hz3c rfl (by decide) _ _ _ rfl (hown.alloc _) ⟨wr.heap.size, 0, none⟩ 1 1 [.int .i64 259] rfl rfl (cell_one_new _ _ _) (by simp [Value.oneCell']) ?c3 ?c4 ?c5 ?_)
          case c3 => unfold maxLen; omega
          case c4 => omega
          case c5 => have := hB.size; simp; omega
          intro v' w1 hown' hgrow _
          have hB3 := below_app hB hB.size hown hgrow
          clear hgrow hown
          go_wp2
          go_roundw
          case rel => exact ⟨k + 1, 3, acc ++ [259], by omega, by omega, by omega, by go_num, rfl, own_congr hown' (by simp) (by simp), hB3, by simp; omega, by rw [← HR.out, HN.out]; rfl⟩
          case measure => simp [intOf]; omega
        · have hs3 : (s != 3) = true := by rw [bne_iff_ne]; exact c11
          have hn := intF_codeB s 100 acc (vs.drop (k + 1)) (by omega)
          have HN := Lib.hid hn; clear hn
          go_wp2
          go_roundw
          case rel => exact ⟨k + 1, 3, acc, by omega, by omega, by omega, by go_num, rfl, hown, hB, by omega, by rw [← HR.out, HN.out]; rfl⟩
          case measure => simp [intOf]; omega
      · have c12 : v = 101 := by omega
        subst c12
        by_cases c11 : s = 2
        · subst c11
          have hn := intF_fnc4 2 101 acc (vs.drop (k + 1)) (by omega)
          have HN := Lib.hid hn; clear hn
          go_wp2_with (at_builtin; refine wpList_append_own _ rfl _ _ 22 rfl w.heap.size 3 i3 (.int .i64 0) 1 8 Try.underlying22 hi3 hz3a hz3b hz3c rfl (by decide) _ _ _ rfl (hown.alloc _) ⟨wr.heap.size, 0, none⟩ 1 1 [.int .i64 259] rfl rfl (cell_one_new _ _ _) (by simp [Value.oneCell']) ?c3 ?c4 ?c5 ?_)
          case c3 => unfold maxLen; omega
          case c4 => omega
          case c5 => have := hB.size; simp; omega
          intro v' w1 hown' hgrow _
          have hB3 := below_app hB hB.size hown hgrow
          clear hgrow hown
          go_wp2
          go_roundw
          case rel => exact ⟨k + 1, 2, acc ++ [259], by omega, by omega, by omega, by go_num, rfl, own_congr hown' (by simp) (by simp), hB3, by simp; omega, by rw [← HR.out, HN.out]; rfl⟩
          case measure => simp [intOf]; omega
        · have hs3 : (s != 2) = true := by rw [bne_iff_ne]; exact c11
          have hn := intF_codeA s 101 acc (vs.drop (k + 1)) (by omega)
          have HN := Lib.hid hn; clear hn
          go_wp2
          go_roundw
          case rel => exact ⟨k + 1, 2, acc, by omega, by omega, by omega, by go_num, rfl, hown, hB, by omega, by rw [← HR.out, HN.out]; rfl⟩
          case measure => simp [intOf]; omega
    · go_wp2
      go_ret2
      have hr := hR.out
      rw [drop_all (by rw [HL.out]; omega), intF] at hr
      rw [← hr]
      exact ⟨_, rfl, hown, hB⟩

end Go.Proofs.Ytofedeokliljkaa
