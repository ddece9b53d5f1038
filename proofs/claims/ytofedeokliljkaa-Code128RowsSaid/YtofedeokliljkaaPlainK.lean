/-
  Plain: one replaced value is detected.
-/
import Derived.Test.YtofedeokliljkaaPlainJ
namespace Go.Proofs.Ytofedeokliljkaa

def wsum : Nat → List Int → Int
  | _, [] => 0
  | i, v :: r => i * v + wsum (i + 1) r

theorem chkF_wsum : ∀ (l : List Int) (i : Nat) (s : Int), l ≠ [] → chkF i s l = (s + wsum i l) % 103
  | [], _, _, h => absurd rfl h
  | [v], i, s, _ => by simp [chkF, wsum]
  | v :: u :: r, i, s, _ => by
    rw [chkF, chkF_wsum (u :: r) (i + 1) _ (by simp), show wsum i (v :: u :: r) = i * v + wsum (i + 1) (u :: r) from rfl]
    rw [Int.emod_add_emod]; congr 1; omega

theorem wsum_set : ∀ (l : List Int) (i k : Nat) (x : Int), k < l.length → wsum i (l.set k x) = wsum i l + ((i + k : Nat) : Int) * (x - l.getD k 0)
  | [], _, _, _, h => by simp at h
  | v :: r, i, 0, x, _ => by
    simp only [List.set_cons_zero, wsum, Nat.add_zero, List.getD_cons_zero]
    rw [Int.mul_sub]; omega
  | v :: r, i, k + 1, x, h => by
    simp only [List.set_cons_succ, wsum, List.getD_cons_succ]
    rw [wsum_set r (i + 1) k x (by simpa using h), show i + 1 + k = i + (k + 1) by omega]; omega

theorem prime_all : ∀ a, a < 103 → a ≠ 0 → ∀ d, d < 103 → d ≠ 0 → (a * d) % 103 ≠ 0 := by decide +kernel

theorem prime_int (a : Nat) (d : Int) (ha : a % 103 ≠ 0) (hd : d ≠ 0) (h1 : -103 < d) (h2 : d < 103) : ((a : Int) * d) % 103 ≠ 0 := by
  have key : ∀ q : Nat, q < 103 → q ≠ 0 → ((a : Int) * q) % 103 ≠ 0 := by
    intro q h1 h2 e
    have := prime_all (a % 103) (Nat.mod_lt _ (by omega)) ha q h1 h2
    apply this
    rw [Nat.mod_mul_mod]
    have : ((a * q : Nat) : Int) % 103 = 0 := by rw [Int.natCast_mul]; exact e
    omega
  rcases Int.lt_or_lt_of_ne hd with h | h
  · intro e
    refine key (-d).toNat (by omega) (by omega) ?_
    rw [Int.toNat_of_nonneg (by omega), Int.mul_neg]
    omega
  · intro e
    refine key d.toNat (by omega) (by omega) ?_
    rw [Int.toNat_of_nonneg (by omega)]; exact e

/-- The result of intF: an error without characters, or none. -/
theorem intF_err : ∀ (n : Nat) (l : List Int), l.length ≤ n → ∀ (s : Int) (acc : List Int), intF s acc l = ([], 22) ∨ (intF s acc l).2 = 0
  | _, [], _, s, acc => .inr rfl
  | 0, v :: r, h, s, acc => by simp at h
  | n + 1, v :: r, h, s, acc => by
    have hr : r.length ≤ n := by simpa using h
    rw [intF.eq_def]
    simp only
    split
    · exact .inl rfl
    split
    · exact intF_err n r hr _ _
    split
    · exact intF_err n r hr _ _
    split
    · exact intF_err n r hr _ _
    split
    · exact intF_err n r hr _ _
    split
    · exact intF_err n r hr _ _
    split
    · cases r with
      | nil => exact .inl rfl
      | cons u q =>
        simp only
        split
        · exact .inl rfl
        · exact intF_err n q (by simp at hr; omega) _ _
    split
    · exact intF_err n r hr _ _
    split
    · exact intF_err n r hr _ _
    split
    · exact intF_err n r hr _ _
    · exact intF_err n r hr _ _

/-- A value above 102 is not read. -/
theorem intF_big : ∀ (n : Nat) (l : List Int), l.length ≤ n → (∃ v ∈ l, 102 < v) → ∀ (s : Int) (acc : List Int), intF s acc l = ([], 22)
  | _, [], _, h, s, acc => by simp at h
  | 0, v :: r, h, _, s, acc => by simp at h
  | n + 1, v :: r, h, hb, s, acc => by
    have hr : r.length ≤ n := by simpa using h
    rw [intF.eq_def]
    simp only
    split
    · rfl
    rename_i hv
    have hb' : ∃ u ∈ r, 102 < u := by
      obtain ⟨u, hu, hu2⟩ := hb
      simp only [List.mem_cons] at hu
      rcases hu with rfl | hu
      · omega
      · exact ⟨u, hu, hu2⟩
    split
    · exact intF_big n r hr hb' _ _
    split
    · exact intF_big n r hr hb' _ _
    split
    · exact intF_big n r hr hb' _ _
    split
    · exact intF_big n r hr hb' _ _
    split
    · exact intF_big n r hr hb' _ _
    split
    · cases r with
      | nil => simp at hb'
      | cons u q =>
        simp only
        split
        · rfl
        · rename_i hu
          refine intF_big n q (by simp at hr; omega) ?_ _ _
          obtain ⟨x, hx, hx2⟩ := hb'
          simp only [List.mem_cons] at hx
          rcases hx with rfl | hx
          · omega
          · exact ⟨x, hx, hx2⟩
    split
    · exact intF_big n r hr hb' _ _
    split
    · exact intF_big n r hr hb' _ _
    split
    · exact intF_big n r hr hb' _ _
    · exact intF_big n r hr hb' _ _

theorem charsF_err (vs : List Int) (h : (charsF vs).2 ≠ 0) : (charsF vs).1 = [] := by
  unfold charsF at h ⊢
  split
  · rfl
  rename_i h1
  rw [if_neg h1] at h
  split
  · rfl
  rename_i h2
  rw [if_neg h2] at h
  split
  · rfl
  rename_i h3
  rw [if_neg h3] at h
  split
  · rfl
  rename_i h4
  rw [if_neg h4] at h
  split
  · rfl
  rename_i h5
  rw [if_neg h5] at h
  rcases intF_err _ _ (Nat.le_refl _) (vs.getD 0 0 - 101) [] with e | e
  · rw [e]
  · exact absurd e h

/-- What an accepted sequence fulfils. -/
theorem charsF_ok (vs : List Int) (h : (charsF vs).2 = 0) : 3 ≤ vs.length ∧ 103 ≤ vs.getD 0 0 ∧ vs.getD 0 0 ≤ 105 ∧ vs.getD (vs.length - 1) 0 = 106 ∧ vs.getD (vs.length - 2) 0 = chkL (vs.take (vs.length - 2)) ∧
    (intF (vs.getD 0 0 - 101) [] ((vs.take (vs.length - 2)).drop 1)).2 = 0 ∧ charsF vs = intF (vs.getD 0 0 - 101) [] ((vs.take (vs.length - 2)).drop 1) ∧ inV 106 vs = true := by
  have h' := h
  unfold charsF at h
  split at h
  · simp at h
  rename_i h1
  split at h
  · simp at h
  rename_i h2
  split at h
  · simp at h
  rename_i h3
  split at h
  · simp at h
  rename_i h4
  split at h
  · simp at h
  rename_i h5
  refine ⟨by omega, by omega, by omega, by simpa using h4, by simpa using h5, h, ?_, by simpa using h1⟩
  unfold charsF
  rw [if_neg h1, if_neg h2, if_neg h3, if_neg h4, if_neg h5]

theorem detects {cs : List Int} (hb : badC cs = false) (hn : cs.length ≤ 5000) (vs : List Int) (hvs : vs = seqF cs ++ [chkL (seqF cs), 106]) (k : Nat) (x : Int) (hk : k + 1 < vs.length) (hx0 : 0 ≤ x) (hx1 : x ≤ 105)
    (hne : vs.getD k 0 ≠ x) (h103 : ¬ (0 < k ∧ k % 103 = 0 ∧ k + 2 ≠ vs.length)) : (charsF (vs.set k x)).2 ≠ 0 ∧ (charsF (vs.set k x)).1 = [] := by
  have key : (charsF (vs.set k x)).2 ≠ 0 := by
    intro h0
    obtain ⟨a1, a2, a3, a4, a5, a6, _, _⟩ := charsF_ok _ h0
    have hs := start_range hb hn
    obtain ⟨f, hf, he⟩ := seq_parts hb hn
    have hmem := (go_mem hb hn f 0 _ (by omega) (by omega) (by omega) hf).1
    generalize goF cs (costsF cs) f 0 (startF (costsF cs) - 101) = l at *
    generalize startF (costsF cs) = s at *
    rw [he] at hvs
    have hl : vs.length = l.length + 3 := by rw [hvs]; simp
    rw [List.length_set, hl] at a5 a6
    have t1 : vs.take (l.length + 1) = s :: l := by rw [hvs, List.take_append_of_le_length (by simp), List.take_of_length_le (by simp)]
    have g1 : vs.getD (l.length + 1) 0 = chkL (s :: l) := by
      rw [hvs, List.getD_eq_getElem?_getD, List.getElem?_append_right (by simp)]; simp
    rw [show l.length + 3 - 2 = l.length + 1 by omega] at a5 a6
    by_cases hk2 : k = l.length + 1
    · subst hk2
      rw [List.take_set_of_le (Nat.le_refl _), t1] at a5
      have : (vs.set (l.length + 1) x).getD (l.length + 1) 0 = x := by rw [List.getD_eq_getElem?_getD, List.getElem?_set_self (by omega)]; rfl
      rw [this] at a5
      rw [g1] at hne
      exact hne a5.symm
    · have hkl : k < l.length + 1 := by omega
      have t2 : (vs.set k x).take (l.length + 1) = (s :: l).set k x := by rw [List.take_set, t1]
      have g2 : (vs.set k x).getD (l.length + 1) 0 = chkL (s :: l) := by
        rw [List.getD_eq_getElem?_getD, List.getElem?_set_ne (by omega), ← List.getD_eq_getElem?_getD]; exact g1
      have g3 : vs.getD k 0 = (s :: l).getD k 0 := by
        rw [← t1, List.getD_eq_getElem?_getD, List.getD_eq_getElem?_getD, List.getElem?_take, if_pos hkl]
      rw [g2, t2] at a5
      rw [t2] at a6
      rw [g3] at hne
      unfold chkL at a5
      rw [chkF_wsum _ _ _ (by simp), chkF_wsum _ _ _ (by
        intro e
        have := congrArg List.length e
        simp at this), wsum_set _ _ _ _ (by simpa using hkl)] at a5
      cases k with
      | zero =>
        simp only [List.set_cons_zero, List.getD_cons_zero] at a5 hne
        have b1 : (vs.set 0 x).getD 0 0 = x := by rw [List.getD_eq_getElem?_getD, List.getElem?_set_self (by omega)]; rfl
        rw [b1] at a2 a3
        simp at a5
        omega
      | succ k =>
        simp only [List.getD_cons_succ, List.set_cons_succ, List.getD_cons_zero, Nat.zero_add] at a5 hne a6
        by_cases hx : 102 < x
        · have hbig := intF_big _ (l.set k x) (Nat.le_refl _) ⟨x, by
            rw [List.mem_iff_getElem?]; exact ⟨k, List.getElem?_set_self (by omega)⟩, hx⟩ ((vs.set (k + 1) x).getD 0 0 - 101) []
          simp only [List.drop_succ_cons, List.drop_zero] at a6
          rw [hbig] at a6
          simp at a6
        · have hlk : 0 ≤ l.getD k 0 ∧ l.getD k 0 ≤ 102 := hmem _ (by
            have : k < l.length := by omega
            simp [this])
          have hp := prime_int (k + 1) (x - l.getD k 0) (by omega) (by omega) (by omega) (by omega)
          generalize ((k + 1 : Nat) : Int) * (x - l.getD k 0) = D at *
          omega
  exact ⟨key, charsF_err _ key⟩

theorem seq_len_ge {cs : List Int} (hb : badC cs = false) (hn : cs.length ≤ 5000) (h0 : cs.length ≠ 0) : 2 ≤ (seqF cs).length := by
  have hs := start_range hb hn
  obtain ⟨f, hf, he⟩ := seq_parts hb hn
  have hl := (go_mem hb hn f 0 _ (by omega) (by omega) (by omega) hf).2
  have := (next_ok hn (badC_ok hb) (k := 0) (by omega) (by omega) (by omega) hf).1
  rw [he]; simp [hl]; omega

end Go.Proofs.Ytofedeokliljkaa
