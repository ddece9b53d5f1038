/-
  Plain: the numbers that Quantize gives add up to the total, are as near as possible to the proportions, and are found again from their multiples. No condition.
-/
import Derived.Test.YtcihombiijjndaaGreedyB
import Derived.Test.YtcihombiijjndaaPlainR
namespace Go.Proofs.Ytcihombiijjndaa

theorem bestI_spec (S T : Int) (zs out : List Int) (h0 : 0 < zs.length) : bestI S T zs out < zs.length ∧ ∀ j, j < zs.length → keyF S T zs out (bestI S T zs out) ≤ keyF S T zs out j := by
  obtain ⟨hb, hspec⟩ := bestF_spec (keyF S T zs out) (zs.length - 1) 1 0 (by omega) (fun j hj => by
    obtain rfl : j = 0 := by omega
    right; exact ⟨rfl, Nat.le_refl _⟩)
  rw [show 1 + (zs.length - 1) = zs.length by omega] at hb hspec
  exact ⟨hb, fun j hj => by have := hspec j hj; unfold bestI; omega⟩

theorem grF_length (S T : Int) (zs : List Int) : ∀ (r : Nat) (out : List Int), (grF S T zs r out).length = out.length
  | 0, _ => rfl
  | r + 1, out => by unfold grF; rw [grF_length S T zs r]; simp

theorem getD_set (out : List Int) (b j : Nat) (v : Int) (hb : b < out.length) : (out.set b v).getD j 0 = if j = b then v else out.getD j 0 := by
  simp only [List.getD_eq_getElem?_getD]
  by_cases h : j = b
  · subst h; rw [List.getElem?_set_self hb, if_pos rfl]; rfl
  · rw [List.getElem?_set_ne (fun e => h e.symm), if_neg h]

theorem sumI_set : ∀ (out : List Int) (b : Nat) (v : Int), b < out.length → sumI (out.set b v) = sumI out - out.getD b 0 + v
  | [], _, _, h => by simp at h
  | x :: r, 0, v, _ => by simp [sumI]; omega
  | x :: r, b + 1, v, h => by
    have := sumI_set r b v (by simpa using h)
    simp only [List.set_cons_succ, sumI, this]
    simp; omega

theorem grF_sum (S T : Int) (zs : List Int) (h0 : 0 < zs.length) : ∀ (r : Nat) (out : List Int), out.length = zs.length → sumI (grF S T zs r out) = sumI out + r
  | 0, _, _ => by simp [grF]
  | r + 1, out, h => by
    unfold grF
    have hb := (bestI_spec S T zs out h0).1
    rw [grF_sum S T zs h0 r _ (by simpa using h), sumI_set _ _ _ (by omega)]
    omega

theorem grF_pos (S T : Int) (zs : List Int) (h0 : 0 < zs.length) : ∀ (r : Nat) (out : List Int), out.length = zs.length → (∀ o ∈ out, 1 ≤ o) → ∀ o ∈ grF S T zs r out, 1 ≤ o
  | 0, _, _, h => h
  | r + 1, out, hl, h => by
    unfold grF
    have hb := (bestI_spec S T zs out h0).1
    refine grF_pos S T zs h0 r _ (by simpa using hl) ?_
    intro o ho
    rcases List.mem_or_eq_of_mem_set ho with h1 | rfl
    · exact h o h1
    · have := h (out.getD (bestI S T zs out) 0) (by simp [show bestI S T zs out < out.length by omega])
      omega

/-- Giving a module of one to another one does not make them nearer. -/
def Near (S T : Int) (zs out : List Int) : Prop := ∀ i j, i < zs.length → j < zs.length → 1 < out.getD i 0 → S * (out.getD i 0 - 1) - T * zs.getD i 0 ≤ S * out.getD j 0 - T * zs.getD j 0

theorem near_step (S T : Int) (zs out : List Int) (hS : 0 ≤ S) (h0 : 0 < zs.length) (hl : out.length = zs.length) (h : Near S T zs out) :
    Near S T zs (out.set (bestI S T zs out) (out.getD (bestI S T zs out) 0 + 1)) := by
  obtain ⟨hb, hmin⟩ := bestI_spec S T zs out h0
  generalize bestI S T zs out = b at *
  intro i j hi hj h1
  rw [getD_set _ _ _ _ (by omega)] at h1 ⊢
  rw [getD_set _ _ _ _ (by omega)]
  have hk := hmin j hj
  unfold keyF at hk
  have hup : S * out.getD j 0 ≤ S * (if j = b then out.getD b 0 + 1 else out.getD j 0) := by
    split
    · rename_i e; subst e; rw [Int.mul_add]; omega
    · exact Int.le_refl _
  by_cases e : i = b
  · subst e
    simp only [if_true] at h1 ⊢
    rw [show out.getD i 0 + 1 - 1 = out.getD i 0 by omega]
    omega
  · rw [if_neg e] at h1 ⊢
    have := h i j hi hj h1
    omega

theorem near_all (S T : Int) (zs : List Int) (hS : 0 ≤ S) (h0 : 0 < zs.length) : ∀ (r : Nat) (out : List Int), out.length = zs.length → Near S T zs out → Near S T zs (grF S T zs r out)
  | 0, _, _, h => h
  | r + 1, out, hl, h => by
    unfold grF
    exact near_all S T zs hS h0 r _ (by simpa using hl) (near_step S T zs out hS h0 hl h)

theorem sumI_rep : ∀ (n : Nat), sumI (List.replicate n 1) = n
  | 0 => rfl
  | n + 1 => by rw [List.replicate_succ, sumI, sumI_rep n]; omega

theorem sumI_mul (k : Int) : ∀ (l : List Int), sumI (l.map (fun z => k * z)) = k * sumI l
  | [] => by simp [sumI]
  | x :: r => by simp [sumI, sumI_mul k r, Int.mul_add]

theorem sumI_lt : ∀ (a b : List Int), a.length = b.length → sumI a < sumI b → ∃ j, j < a.length ∧ a.getD j 0 < b.getD j 0
  | [], [], _, h => by simp [sumI] at h
  | [], _ :: _, h, _ => by simp at h
  | _ :: _, [], h, _ => by simp at h
  | x :: a, y :: b, hl, h => by
    by_cases hxy : x < y
    · exact ⟨0, by simp, by simpa using hxy⟩
    · simp only [sumI] at h
      obtain ⟨j, hj, hjl⟩ := sumI_lt a b (by simpa using hl) (by omega)
      exact ⟨j + 1, by simp; exact hj, by simpa using hjl⟩

theorem eq_of_sum : ∀ (a b : List Int), a.length = b.length → (∀ j, j < a.length → a.getD j 0 ≤ b.getD j 0) → sumI a = sumI b → a = b
  | [], [], _, _, _ => rfl
  | [], _ :: _, h, _, _ => by simp at h
  | _ :: _, [], h, _, _ => by simp at h
  | x :: a, y :: b, hl, h, hs => by
    have h1 := h 0 (by simp)
    simp only [List.getD_cons_zero] at h1
    have hle : ∀ j, j < a.length → a.getD j 0 ≤ b.getD j 0 := fun j hj => by have := h (j + 1) (by simp; exact hj); simpa using this
    have hsum : sumI a ≤ sumI b := by
      rcases Int.lt_or_le (sumI b) (sumI a) with hlt | hge
      · obtain ⟨j, hj, hjl⟩ := sumI_lt b a (by simpa using hl.symm) hlt
        have := hle j (by simp at hl; omega)
        omega
      · exact hge
    simp only [sumI] at hs
    have : x = y := by omega
    subst this
    rw [eq_of_sum a b (by simpa using hl) hle (by omega)]

/-- The greedy way comes to the numbers themselves, where the widths are multiples of them. -/
theorem again_step (k T : Int) (r : List Int) (hk : 1 ≤ k) (hT : 1 ≤ T) (h0 : 0 < r.length) : ∀ (m : Nat) (cur : List Int), cur.length = r.length → (∀ j, j < r.length → cur.getD j 0 ≤ r.getD j 0) → sumI cur + m = sumI r →
    grF (k * T) T (r.map (fun z => k * z)) m cur = r
  | 0, cur, hl, hle, hs => by
    unfold grF
    exact eq_of_sum cur r hl (fun j hj => hle j (by omega)) (by omega)
  | m + 1, cur, hl, hle, hs => by
    unfold grF
    obtain ⟨hb, hmin⟩ := bestI_spec (k * T) T (r.map (fun z => k * z)) cur (by simpa using h0)
    simp only [List.length_map] at hb hmin
    generalize bestI (k * T) T (r.map (fun z => k * z)) cur = b at *
    obtain ⟨j, hj, hjl⟩ := sumI_lt cur r hl (by omega)
    have hkey : ∀ i, i < r.length → keyF (k * T) T (r.map (fun z => k * z)) cur i = k * T * (cur.getD i 0 - r.getD i 0) := by
      intro i hi
      unfold keyF
      have : (r.map (fun z => k * z)).getD i 0 = k * r.getD i 0 := by simp [hi]
      rw [this, Int.mul_sub, Int.mul_assoc k T (r.getD i 0), Int.mul_left_comm T k]
    have hm := hmin j (by omega)
    rw [hkey b hb, hkey j (by omega)] at hm
    have hkT : 0 < k * T := Int.mul_pos (by omega) (by omega)
    have hneg : cur.getD b 0 < r.getD b 0 := by
      rcases Int.lt_or_le (cur.getD b 0) (r.getD b 0) with h1 | h1
      · exact h1
      · exfalso
        have h2 : 0 ≤ k * T * (cur.getD b 0 - r.getD b 0) := Int.mul_nonneg (by omega) (by omega)
        have h3 : k * T * (cur.getD j 0 - r.getD j 0) < 0 := Int.mul_neg_of_pos_of_neg hkT (by omega)
        omega
    refine again_step k T r hk hT h0 m _ (by simpa using hl) ?_ ?_
    · intro i hi
      rw [getD_set _ _ _ _ (by omega)]
      split
      · rename_i e; subst e; omega
      · exact hle i hi
    · rw [sumI_set _ _ _ (by omega)]; omega

end Go.Proofs.Ytcihombiijjndaa
