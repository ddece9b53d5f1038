/-
  Plain: the greedy cuts are the fewest. No condition.
-/
import Derived.Test.YtifgpjhodajccaaPlainQ
namespace Go.Proofs.Ytifgpjhodajccaa

/-- A part that fits: a part of it fits. -/
theorem fits_sub {bs : List Int} (hn : bs.length ≤ 255) {ver l : Nat} {ex : Int} (i j : Nat) (h : fitsF bs ver l ex = true) : fitsF ((bs.drop i).take j) ver l ex = true :=
  fits_mono (fun cl hc => Int.le_trans (bits_take hc (bs.drop i) (by simp; omega) j) (bits_drop hc bs hn i)) h

theorem cutN_max {rs : List Int} {ver l n : Nat} (hr : rs.length ≤ 255) (hn : n ≤ rs.length) (h0 : 0 < n) (h : fitsF (rs.take n) ver l 20 = true) : n ≤ cutN rs ver l := by
  have hm : ∀ i j, i ≤ j → j < rs.length → (!fitsF (rs.take (i + 1)) ver l 20) = true → (!fitsF (rs.take (j + 1)) ver l 20) = true := by
    intro i j hij hj hf
    simp only [Bool.not_eq_true'] at *
    cases hfj : fitsF (rs.take (j + 1)) ver l 20 with
    | false => rfl
    | true =>
      have : fitsF (rs.take (i + 1)) ver l 20 = true := fits_mono (fun cl hc => by
        have := bits_take hc (rs.take (j + 1)) (by simp; omega) (i + 1)
        rwa [List.take_take, show min (i + 1) (j + 1) = i + 1 by omega] at this) hfj
      rw [this] at hf; cases hf
  obtain ⟨s1, s2, s3⟩ := search_spec (fun i => !fitsF (rs.take (i + 1)) ver l 20) rs.length hm rs.length 0 rs.length (Nat.zero_le _) (Nat.le_refl _) (by omega) (fun k hk => by omega) (fun h => by omega)
  unfold cutN
  generalize searchF (fun i => !fitsF (rs.take (i + 1)) ver l 20) rs.length 0 rs.length = k at *
  simp only [Bool.not_eq_true', Bool.not_eq_false'] at s1 s3
  rcases Nat.lt_or_ge k n with hk | hk
  · have h1 := s3 (by omega)
    have h2 : fitsF (rs.take (k + 1)) ver l 20 = true := fits_mono (fun cl hc => by
      have := bits_take hc (rs.take n) (by simp; omega) (k + 1)
      rwa [List.take_take, show min (k + 1) n = k + 1 by omega] at this) h
    rw [h1] at h2; cases h2
  · exact hk

/-- A division of the rest into parts that fit, by their number. -/
inductive Divs (ver l : Nat) : List Int → Nat → Prop
  | nil : Divs ver l [] 0
  | cons {rs : List Int} {n k : Nat} : 0 < n → n ≤ rs.length → fitsF (rs.take n) ver l 20 = true → Divs ver l (rs.drop n) k → Divs ver l rs (k + 1)

/-- What is left behind more bytes needs no more parts. -/
theorem Divs.drop {ver l : Nat} : ∀ {k : Nat} {rs : List Int}, rs.length ≤ 255 → Divs ver l rs k → ∀ d, d ≤ rs.length → ∃ k', k' ≤ k ∧ Divs ver l (rs.drop d) k' := by
  intro k
  induction k with
  | zero =>
    intro rs hr h d hd
    cases h
    exact ⟨0, Nat.le_refl _, by simp; exact .nil⟩
  | succ k ih =>
    intro rs hr h d hd
    cases h with
    | @cons _ n _ h1 h2 h3 h4 =>
      rcases Nat.lt_or_ge d n with hdn | hdn
      · refine ⟨k + 1, Nat.le_refl _, .cons (n := n - d) (by omega) (by simp; omega) ?_ ?_⟩
        · have := fits_sub (bs := rs.take n) (by simp; omega) d (n - d) h3
          rw [List.drop_take, List.take_take, Nat.min_self] at this
          exact this
        · rw [List.drop_drop, show d + (n - d) = n by omega]
          exact h4
      · obtain ⟨k', hk, hD⟩ := ih (by simp; omega) h4 (d - n) (by simp; omega)
        rw [List.drop_drop, show n + (d - n) = d by omega] at hD
        exact ⟨k', by omega, hD⟩

/-- The greedy cuts are no more than any division. -/
theorem greedy {ver l : Nat} : ∀ (k : Nat) (rs acc : List Int) (f : Nat), rs.length ≤ 255 → Divs ver l rs k → acc.length + k ≤ 16 → rs.length < f → ∃ xs, cutsL ver l f rs acc = (xs, 0) ∧ xs.length ≤ acc.length + k := by
  intro k
  induction k using Nat.strongRecOn with
  | _ k ih =>
    intro rs acc f hr h h16 hf
    obtain ⟨f, rfl⟩ : ∃ g, f = g + 1 := ⟨f - 1, by omega⟩
    cases h with
    | nil => exact ⟨acc, by simp [cutsL], Nat.le_refl _⟩
    | @cons _ n k h1 h2 h3 h4 =>
      have hc := cutN_max hr h2 h1 h3
      have hle := cutN_le rs ver l
      rw [cutsL, if_neg (by omega), if_neg (by omega)]
      obtain ⟨k', hk, hD⟩ := Divs.drop (by simp; omega) h4 (cutN rs ver l - n) (by simp; omega)
      rw [List.drop_drop, show n + (cutN rs ver l - n) = cutN rs ver l by omega] at hD
      obtain ⟨xs, e1, e2⟩ := ih k' (by omega) (rs.drop (cutN rs ver l)) (acc ++ [(cutN rs ver l : Int)]) f (by simp; omega) hD (by simp; omega) (by simp; omega)
      exact ⟨xs, e1, by simp at e2; omega⟩

end Go.Proofs.Ytifgpjhodajccaa
