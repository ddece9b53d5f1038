/-
  Plain: container/heap keeps the least share first; so runs.Quantize gives its modules as the reference does. No condition.
-/
import Derived.Test.YtcihombiijjndaaHeap
namespace Go.Proofs.Ytcihombiijjndaa

def le (a b : Sh) : Prop := a.co < b.co ∨ (a.co = b.co ∧ a.ix ≤ b.ix)

theorem le_of_not {a b : Sh} (h : lessB b a ≠ true) : le a b := by
  unfold lessB at h; unfold le
  split at h
  · simp at h; omega
  · simp at h; omega

theorem le_of_less {a b : Sh} (h : lessB a b = true) : le a b := by
  unfold lessB at h; unfold le
  split at h
  · simp at h; omega
  · simp at h; omega

theorem le_trans' {a b c : Sh} (h : le a b) (k : le b c) : le a c := by unfold le at *; omega
theorem le_refl' (a : Sh) : le a a := by unfold le; omega

def Child (p c : Nat) : Prop := c = 2 * p + 1 ∨ c = 2 * p + 2

def HeapFrom (k : Nat) (q : List Sh) : Prop := ∀ p c, k ≤ p → Child p c → c < q.length → le (gt q p) (gt q c)

def HeapBut (k i : Nat) (q : List Sh) : Prop :=
  (∀ p c, k ≤ p → p ≠ i → Child p c → c < q.length → le (gt q p) (gt q c)) ∧
  (∀ p c, k ≤ p → Child p i → Child i c → c < q.length → le (gt q p) (gt q c))

theorem gt_swap_i {q : List Sh} {i j : Nat} (hij : i ≠ j) (hi : i < q.length) : gt (swapF q i j) i = gt q j := by
  have h1 : i < (swapF q i j).length := by rw [swapF_length]; exact hi
  unfold gt
  simp only [List.getD_eq_getElem?_getD]
  unfold swapF
  rw [List.getElem?_set_ne (fun e => hij e.symm), List.getElem?_set_self hi]
  rfl

theorem gt_swap_j {q : List Sh} {i j : Nat} (hj : j < q.length) : gt (swapF q i j) j = gt q i := by
  unfold gt
  simp only [List.getD_eq_getElem?_getD]
  unfold swapF
  rw [List.getElem?_set_self (by simpa using hj)]
  rfl

theorem gt_swap_o {q : List Sh} {i j k : Nat} (h1 : k ≠ i) (h2 : k ≠ j) : gt (swapF q i j) k = gt q k := by
  unfold gt
  simp only [List.getD_eq_getElem?_getD]
  unfold swapF
  rw [List.getElem?_set_ne (fun e => h2 e.symm), List.getElem?_set_ne (fun e => h1 e.symm)]

theorem child_is {q : List Sh} (i : Nat) : Child i (child q i) := by
  unfold child Child; split <;> omega

theorem child_min {q : List Sh} {i c : Nat} (hc : Child i c) (hl : c < q.length) : le (gt q (child q i)) (gt q c) := by
  unfold child
  split
  · rename_i h
    rcases hc with rfl | rfl
    · exact le_of_less h.2
    · exact le_refl' _
  · rename_i h
    rcases hc with rfl | rfl
    · exact le_refl' _
    · exact le_of_not (fun e => h ⟨hl, e⟩)

theorem down_heap : ∀ (f : Nat) (q : List Sh) (k i : Nat), q.length ≤ f + i → i < q.length → k ≤ i → HeapBut k i q → HeapFrom k (downF f q i).1
  | 0, _, _, i, hf, hi, _, _ => by omega
  | f + 1, q, k, i, hf, hi, hk, hB => by
    obtain ⟨h1, h2⟩ := hB
    unfold downF
    split
    · rename_i hlen
      intro p c hp hc hl
      by_cases e : p = i
      · subst e; rcases hc with rfl | rfl <;> simp only at hl <;> omega
      · exact h1 p c hp e hc hl
    · rename_i hlen
      have hcl : child q i < q.length := child_lt (by omega)
      have hci := child_is (q := q) i
      have hne : i ≠ child q i := by rcases hci with h | h <;> omega
      split
      · rename_i hless
        refine down_heap f _ k (child q i) (by rw [swapF_length]; rcases hci with h | h <;> omega) (by rw [swapF_length]; exact hcl) (by rcases hci with h | h <;> omega) ⟨?_, ?_⟩
        · intro p c hp hpm hc hl
          rw [swapF_length] at hl
          by_cases e : p = i
          · subst e
            rw [gt_swap_i hne hi]
            by_cases ec : c = child q p
            · subst ec; rw [gt_swap_j hcl]; exact le_of_less hless
            · rw [gt_swap_o (by rcases hc with h | h <;> omega) ec]; exact child_min hc hl
          · rw [gt_swap_o e hpm]
            by_cases ei : c = i
            · subst ei
              rw [gt_swap_i hne hi]
              exact h2 p _ hp hc hci hcl
            · have ecm : c ≠ child q i := by
                intro ec
                rw [ec] at hc
                rcases hc with h | h <;> rcases hci with h' | h' <;> omega
              rw [gt_swap_o ei ecm]
              exact h1 p c hp e hc hl
        · intro p c hp hpm hc hl
          rw [swapF_length] at hl
          have ep : p = i := by rcases hpm with h | h <;> rcases hci with h' | h' <;> omega
          subst ep
          rw [gt_swap_i hne hi, gt_swap_o (by rcases hc with h | h <;> rcases hci with h' | h' <;> omega) (by rcases hc with h | h <;> omega)]
          exact h1 _ c (by rcases hci with h' | h' <;> omega) (fun e => hne e.symm) hc hl
      · rename_i hless
        intro p c hp hc hl
        by_cases e : p = i
        · subst e; exact le_trans' (le_of_not hless) (child_min hc hl)
        · exact h1 p c hp e hc hl

theorem init_heap : ∀ (k : Nat) (q : List Sh), k ≤ q.length → HeapFrom k q → HeapFrom 0 (initF k q)
  | 0, _, _, h => h
  | k + 1, q, hk, h => by
    unfold initF
    refine init_heap k _ (by rw [downF_length]; omega) (down_heap _ _ _ _ (by omega) (by omega) (Nat.le_refl _) ⟨?_, ?_⟩)
    · intro p c hp hpk hc hl; exact h p c (by omega) hc hl
    · intro p c hp hpk hc hl; rcases hpk with e | e <;> omega

theorem half_heap (q : List Sh) : HeapFrom (q.length / 2) q := by
  intro p c hp hc hl
  rcases hc with rfl | rfl <;> omega

theorem root_min {q : List Sh} (h : HeapFrom 0 q) : ∀ k, k < q.length → le (gt q 0) (gt q k) := by
  intro k
  induction k using Nat.strongRecOn with
  | _ k ih =>
    intro hk
    rcases Nat.eq_zero_or_pos k with rfl | h0
    · exact le_refl' _
    · exact le_trans' (ih ((k - 1) / 2) (by omega) (by omega)) (h _ _ (Nat.zero_le _) (by unfold Child; omega) hk)

theorem gt_bump_o {q : List Sh} {S : Int} {k : Nat} (h : k ≠ 0) : gt (bump q S) k = gt q k := by
  unfold gt
  simp only [List.getD_eq_getElem?_getD]
  unfold bump
  rw [List.getElem?_set_ne (fun e => h e.symm)]

theorem bump_heap {q : List Sh} {S : Int} (h : HeapFrom 0 q) : HeapBut 0 0 (bump q S) := by
  constructor
  · intro p c _ hp hc hl
    have hl' : c < q.length := by simpa [bump] using hl
    rw [gt_bump_o hp, gt_bump_o (by rcases hc with h | h <;> omega)]
    exact h p c (Nat.zero_le _) hc hl'
  · intro p c _ hp; rcases hp with e | e <;> omega

/-- One module given: the heap stays a heap. -/
theorem give_heap {q : List Sh} {S : Int} (h : HeapFrom 0 q) (h0 : 0 < q.length) : HeapFrom 0 (downF q.length (bump q S) 0).1 :=
  down_heap _ _ _ _ (by simp [bump]) (by simpa [bump] using h0) (Nat.le_refl _) (bump_heap h)

end Go.Proofs.Ytcihombiijjndaa
