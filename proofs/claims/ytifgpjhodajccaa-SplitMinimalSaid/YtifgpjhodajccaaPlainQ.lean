/-
  Plain: fewer bytes want fewer bits; the binary search finds the longest part that fits. No condition.
-/
import Derived.Test.YtifgpjhodajccaaPlainP
import Derived.Test.YtifgpjhodajccaaWalkL
namespace Go.Proofs.Ytifgpjhodajccaa

theorem reach_shift {bs bs' : List Int} {a a' m e' : Nat} (h : bs.drop a = bs'.drop a') (ha : a ≤ bs.length) (ha' : a' ≤ bs'.length) (hr : reach bs' m a' e') : reach bs m a (a + (e' - a')) := by
  have hl : bs.length - a = bs'.length - a' := by
    have := congrArg List.length h
    simpa using this
  have h1 := hr.1
  have h2 := hr.2.1
  refine ⟨by omega, by omega, fun i hi hie => ?_⟩
  have h3 := hr.2.2 (a' + (i - a)) (by omega) (by omega)
  have e1 : bs.getD i 0 = (bs.drop a).getD (i - a) 0 := by
    rw [List.getD_eq_getElem?_getD, List.getD_eq_getElem?_getD, List.getElem?_drop, show a + (i - a) = i by omega]
  have e2 : bs'.getD (a' + (i - a)) 0 = (bs'.drop a').getD (i - a) 0 := by
    rw [List.getD_eq_getElem?_getD, List.getD_eq_getElem?_getD, List.getElem?_drop]
  rw [e1, h, ← e2]
  exact h3

theorem opt_le {cl : Nat} {bs bs' : List Int} {B B' : Nat → Int} (hB : Opt cl bs B) (hB' : Opt cl bs' B') : ∀ r a a', bs.length - a = r → a ≤ bs.length → a' ≤ bs'.length → bs.drop a = bs'.drop a' → B a ≤ B' a' := by
  intro r
  induction r using Nat.strongRecOn with
  | _ r ih =>
    intro a a' hra ha ha' h
    have hl : bs.length - a = bs'.length - a' := by
      have := congrArg List.length h
      simpa using this
    rcases Nat.eq_or_lt_of_le ha' with h0 | h0
    · have : a = bs.length := by omega
      subst this
      rw [h0, hB.zero, hB'.zero]
      exact Int.le_refl _
    · obtain ⟨m, e', hm, hr, he⟩ := hB'.ex a' h0
      have hr' := reach_shift h ha ha' hr
      have h1 := hr.1
      have h2 := hr.2.1
      have h3 := hB.le a m _ hm hr'
      have h4 := ih (bs.length - (a + (e' - a'))) (by omega) (a + (e' - a')) e' rfl (by omega) h2 (by
        have := congrArg (List.drop (e' - a')) h
        rw [List.drop_drop, List.drop_drop] at this
        rw [show a' + (e' - a') = e' by omega] at this
        exact this)
      rw [show a + (e' - a') - a = e' - a' by omega] at h3
      omega

theorem size_mono1 {m : Nat} (hm : isMode m) (n : Nat) : sizeF (packF m) n ≤ sizeF (packF m) (n + 1) := by
  unfold sizeF partF
  rcases hm with rfl | rfl | rfl
  · have e : packF 1 = ⟨3, 10, 10, 0, 4, 7⟩ := rfl
    rw [e]
    simp only
    rcases (show n % 3 = 0 ∨ n % 3 = 1 ∨ n % 3 = 2 by omega) with h | h | h
    · rw [h, show (n + 1) % 3 = 1 by omega]; simp; omega
    · rw [h, show (n + 1) % 3 = 2 by omega]; simp; omega
    · rw [h, show (n + 1) % 3 = 0 by omega]; simp; omega
  · have e : packF 2 = ⟨2, 45, 11, 0, 6, 0⟩ := rfl
    rw [e]
    simp only
    rcases (show n % 2 = 0 ∨ n % 2 = 1 by omega) with h | h
    · rw [h, show (n + 1) % 2 = 1 by omega]; simp; omega
    · rw [h, show (n + 1) % 2 = 0 by omega]; simp; omega
  · have e : packF 4 = ⟨1, 256, 8, 0, 0, 0⟩ := rfl
    rw [e]
    simp [Nat.mod_one]
    omega
theorem size_mono {m : Nat} (hm : isMode m) (n d : Nat) : sizeF (packF m) n ≤ sizeF (packF m) (n + d) := by
  induction d with
  | zero => exact Int.le_refl _
  | succ d ih => exact Int.le_trans ih (size_mono1 hm _)

theorem opt_nonneg {cl : Nat} (hc : cl < 3) {bs : List Int} {B : Nat → Int} (hB : Opt cl bs B) : ∀ r a, bs.length - a = r → a ≤ bs.length → 0 ≤ B a := by
  intro r
  induction r using Nat.strongRecOn with
  | _ r ih =>
    intro a hra ha
    rcases Nat.eq_or_lt_of_le ha with h0 | h0
    · rw [h0, hB.zero]; exact Int.le_refl _
    · obtain ⟨m, e, hm, hr, he⟩ := hB.ex a h0
      have h1 := hr.1
      have h2 := ih (bs.length - e) (by omega) e rfl hr.2.1
      have h3 := (size_bnd hm (e - a)).1
      have h4 := (head_bnd (m := m) hc).1
      omega

theorem opt_take {cl : Nat} (hc : cl < 3) {bs : List Int} {B B' : Nat → Int} {k : Nat} (hk : k ≤ bs.length) (hB : Opt cl (bs.take k) B) (hB' : Opt cl bs B') : ∀ r a, k - a = r → a ≤ k → B a ≤ B' a := by
  have hlen : (bs.take k).length = k := by simp; omega
  intro r
  induction r using Nat.strongRecOn with
  | _ r ih =>
    intro a hra ha
    rcases Nat.eq_or_lt_of_le ha with h0 | h0
    · have : B a = 0 := by rw [h0, ← hlen]; exact hB.zero
      rw [this]
      exact opt_nonneg hc hB' _ a rfl (by omega)
    · obtain ⟨m, e, hm, hr, he⟩ := hB'.ex a (by omega)
      have h1 := hr.1
      have hgd : ∀ i, i < k → (bs.take k).getD i 0 = bs.getD i 0 := fun i hi => by
        rw [List.getD_eq_getElem?_getD, List.getD_eq_getElem?_getD, List.getElem?_take_of_lt hi]
      have h4 := (head_bnd (m := m) hc).1
      rcases Nat.lt_or_ge k e with hek | hek
      · have hr' : reach (bs.take k) m a k := ⟨h0, by omega, fun i hi hik => by rw [hgd i hik]; exact hr.2.2 i hi (by omega)⟩
        have h5 := hB.le a m k hm hr'
        have hz : B k = 0 := by have := hB.zero; rwa [hlen] at this
        have h6 := size_mono hm (k - a) (e - k)
        rw [show k - a + (e - k) = e - a by omega] at h6
        have h7 := opt_nonneg hc hB' _ e rfl hr.2.1
        omega
      · have hr' : reach (bs.take k) m a e := ⟨h1, by omega, fun i hi hie => by rw [hgd i (by omega)]; exact hr.2.2 i hi hie⟩
        have h5 := hB.le a m e hm hr'
        have h6 := ih (k - e) (by omega) e rfl hek
        omega

theorem opt_tail {cl : Nat} (hc : cl < 3) {bs : List Int} {B : Nat → Int} (hB : Opt cl bs B) (a : Nat) (ha : a < bs.length) : B (a + 1) ≤ B a := by
  obtain ⟨m, e, hm, hr, he⟩ := hB.ex a ha
  have h4 := (head_bnd (m := m) hc).1
  have h3 := (size_bnd hm (e - a)).1
  rcases reach_split hr with h1 | hr'
  · rw [h1] at he h3; omega
  · have h5 := hB.le (a + 1) m e hm hr'
    have h6 := size_mono1 hm (e - (a + 1))
    have := hr'.1
    rw [show e - (a + 1) + 1 = e - a by omega] at h6
    omega

theorem opt_drop {cl : Nat} (hc : cl < 3) {bs : List Int} {B : Nat → Int} (hB : Opt cl bs B) : ∀ d a, a + d ≤ bs.length → B (a + d) ≤ B a
  | 0, a, _ => Int.le_refl _
  | d + 1, a, h => Int.le_trans (opt_tail hc hB (a + d) (by omega)) (opt_drop hc hB d a (by omega))

theorem bits_take {cl : Nat} (hc : cl < 3) (bs : List Int) (hn : bs.length ≤ 255) (k : Nat) : bitsF cl (bs.take k) ≤ bitsF cl bs := by
  rcases Nat.lt_or_ge bs.length k with hk | hk
  · rw [List.take_of_length_le (by omega)]; exact Int.le_refl _
  · obtain ⟨B, h1, h2⟩ := bstF_opt hc bs hn
    obtain ⟨B', h3, h4⟩ := bstF_opt hc (bs.take k) (by simp; omega)
    rw [← h2, ← h4]
    exact opt_take hc hk h3 h1 _ 0 rfl (Nat.zero_le _)

theorem bits_drop {cl : Nat} (hc : cl < 3) (bs : List Int) (hn : bs.length ≤ 255) (k : Nat) : bitsF cl (bs.drop k) ≤ bitsF cl bs := by
  rcases Nat.lt_or_ge bs.length k with hk | hk
  · obtain ⟨B, h1, h2⟩ := bstF_opt hc bs hn
    obtain ⟨B', h3, h4⟩ := bstF_opt hc (bs.drop k) (by simp; omega)
    have : bs.drop k = [] := List.drop_of_length_le (by omega)
    have hz := h3.zero
    rw [this] at hz
    rw [← h2, ← h4]
    have e : B' 0 = 0 := hz
    rw [e]
    exact opt_nonneg hc h1 _ 0 rfl (Nat.zero_le _)
  · obtain ⟨B, h1, h2⟩ := bstF_opt hc bs hn
    obtain ⟨B', h3, h4⟩ := bstF_opt hc (bs.drop k) (by simp; omega)
    rw [← h2, ← h4]
    have h5 := opt_le h3 h1 _ 0 k rfl (Nat.zero_le _) hk (by simp)
    have h6 := opt_drop hc h1 k 0 (by omega)
    rw [Nat.zero_add] at h6
    omega

theorem small_spec (bs : List Int) (l : Nat) (ex : Int) : ∀ f v, 1 ≤ v → ((smallF bs l ex f v = (0, 16) ∧ ∀ u, v ≤ u → u < v + f → ¬ ex ≤ 8 * capF u l - bitsF (classN u) bs) ∨
    ∃ u, v ≤ u ∧ u < v + f ∧ smallF bs l ex f v = ((u : Int), 0) ∧ ex ≤ 8 * capF u l - bitsF (classN u) bs ∧ ∀ t, v ≤ t → t < u → ¬ ex ≤ 8 * capF t l - bitsF (classN t) bs) := by
  intro f
  induction f with
  | zero => intro v hv; exact .inl ⟨rfl, fun u h1 h2 => by omega⟩
  | succ f ih =>
    intro v hv
    by_cases h : ex ≤ 8 * capF v l - bitsF (classN v) bs
    · right
      refine ⟨v, Nat.le_refl _, by omega, ?_, h, fun t h1 h2 => by omega⟩
      rw [smallF, if_pos h]
    · have hs : smallF bs l ex (f + 1) v = smallF bs l ex f (v + 1) := by rw [smallF, if_neg h]
      rw [hs]
      rcases ih (v + 1) (by omega) with ⟨h1, h2⟩ | ⟨u, h1, h2, h3, h4, h5⟩
      · left
        refine ⟨h1, fun u h3 h4 => ?_⟩
        rcases Nat.eq_or_lt_of_le h3 with rfl | h3
        · exact h
        · exact h2 u h3 (by omega)
      · right
        refine ⟨u, by omega, by omega, h3, h4, fun t h6 h7 => ?_⟩
        rcases Nat.eq_or_lt_of_le h6 with rfl | h6
        · exact h
        · exact h5 t h6 h7

theorem fits_iff (bs : List Int) (ver l : Nat) (ex : Int) : fitsF bs ver l ex = true ↔ ∃ v, 1 ≤ v ∧ v ≤ 40 ∧ v ≤ ver ∧ ex ≤ 8 * capF v l - bitsF (classN v) bs := by
  unfold fitsF
  rcases small_spec bs l ex 40 1 (Nat.le_refl _) with ⟨h1, h2⟩ | ⟨u, h1, h2, h3, h4, h5⟩
  · rw [h1]
    constructor
    · intro h; simp at h
    · rintro ⟨v, h3, h4, h5, h6⟩; exact absurd h6 (h2 v h3 (by omega))
  · rw [h3]
    constructor
    · intro h
      simp at h
      exact ⟨u, h1, by omega, by omega, h4⟩
    · rintro ⟨v, h6, h7, h8, h9⟩
      have : u ≤ v := Nat.le_of_not_lt fun hlt => h5 v h6 hlt h9
      simp
      omega

theorem fits_mono {bs bs' : List Int} (h : ∀ cl, cl < 3 → bitsF cl bs ≤ bitsF cl bs') {ver l : Nat} {ex : Int} (hf : fitsF bs' ver l ex = true) : fitsF bs ver l ex = true := by
  rw [fits_iff] at *
  obtain ⟨v, h1, h2, h3, h4⟩ := hf
  exact ⟨v, h1, h2, h3, by have := h (classN v) (classN_lt v); omega⟩

/-- What the binary search finds. -/
theorem search_spec (f : Nat → Bool) (N : Nat) (hm : ∀ i j, i ≤ j → j < N → f i = true → f j = true) : ∀ r i j, i ≤ j → j ≤ N → j - i ≤ r → (∀ k, k < i → f k = false) → (j < N → f j = true) →
    (∀ k, k < searchF f r i j → f k = false) ∧ searchF f r i j ≤ N ∧ (searchF f r i j < N → f (searchF f r i j) = true) := by
  intro r
  induction r with
  | zero =>
    intro i j h1 h2 h3 h4 h5
    have : i = j := by omega
    subst this
    exact ⟨h4, h2, h5⟩
  | succ r ih =>
    intro i j h1 h2 h3 h4 h5
    rw [searchF]
    by_cases hij : i < j
    · rw [if_pos hij]
      have hmid : (i + j) / 2 < j := by omega
      have hmid2 : i ≤ (i + j) / 2 := by omega
      by_cases hf : f ((i + j) / 2) = true
      · rw [if_pos hf]
        exact ih i _ hmid2 (by omega) (by omega) h4 (fun _ => hf)
      · rw [if_neg hf]
        refine ih _ j (by omega) h2 (by omega) (fun k hk => ?_) h5
        cases hk2 : f k with
        | false => rfl
        | true => exact absurd (hm k ((i + j) / 2) (by omega) (by omega) hk2) hf
    · rw [if_neg hij]
      have : i = j := by omega
      subst this
      exact ⟨h4, h2, h5⟩

/-- The longest part. -/
theorem cutN_eq {rs : List Int} {ver l n : Nat} (hr : rs.length ≤ 255) (hn : n ≤ rs.length) (h1 : ∀ i, i < n → fitsF (rs.take (i + 1)) ver l 20 = true) (h2 : n < rs.length → fitsF (rs.take (n + 1)) ver l 20 = false) : cutN rs ver l = n := by
  have hm : ∀ i j, i ≤ j → j < rs.length → (!fitsF (rs.take (i + 1)) ver l 20) = true → (!fitsF (rs.take (j + 1)) ver l 20) = true := by
    intro i j hij hj hf
    simp only [Bool.not_eq_true'] at *
    cases hfj : fitsF (rs.take (j + 1)) ver l 20 with
    | false => rfl
    | true =>
      have : fitsF (rs.take (i + 1)) ver l 20 = true := fits_mono (fun cl hc => by
        have := bits_take hc (rs.take (j + 1)) (by simp; omega) (i + 1)
        rwa [List.take_take, show min (i + 1) (j + 1) = i + 1 by omega] at this) hfj
      rw [this] at hf; cases hf
  obtain ⟨s1, s2, s3⟩ := search_spec (fun i => !fitsF (rs.take (i + 1)) ver l 20) rs.length hm rs.length 0 rs.length (Nat.zero_le _) (Nat.le_refl _) (by omega) (fun k hk => by omega) (fun h => by omega)
  unfold cutN
  generalize searchF (fun i => !fitsF (rs.take (i + 1)) ver l 20) rs.length 0 rs.length = k at *
  simp only [Bool.not_eq_true', Bool.not_eq_false'] at s1 s3
  rcases Nat.lt_trichotomy k n with hk | hk | hk
  · have := h1 k hk
    rw [s3 (by omega)] at this
    cases this
  · exact hk
  · have := s1 n hk
    rw [h2 (by omega)] at this
    cases this

end Go.Proofs.Ytifgpjhodajccaa
