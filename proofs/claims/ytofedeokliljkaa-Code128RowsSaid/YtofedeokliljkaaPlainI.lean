/-
  Plain: what Values returns is read back by Chars. Condition: at most 5000 characters.
-/
import Derived.Test.YtofedeokliljkaaPlainH
namespace Go.Proofs.Ytofedeokliljkaa

theorem drop_at {cs : List Int} {k : Nat} (h : k < cs.length) : cs.drop k = cs.getD k 0 :: cs.drop (k + 1) := drop_getD cs k 0 h

/-- The own value of a character is read as this character. -/
theorem own_read {c : Int} (hc : isCh c) {st : Int} (h2 : 2 ≤ st) (h4 : st ≤ 4) (ho : (ownV c st).2 = true) (acc r : List Int) : intF st acc ((ownV c st).1 :: r) = intF st (acc ++ [c]) r := by
  unfold isCh at hc
  unfold ownV at ho ⊢
  by_cases h256 : 256 ≤ c
  · rw [if_pos h256] at ho ⊢
    unfold funF at ho ⊢
    have : c = 256 ∨ c = 257 ∨ c = 258 ∨ c = 259 := by omega
    have hst : st = 2 ∨ st = 3 ∨ st = 4 := by omega
    rcases this with rfl | rfl | rfl | rfl <;> rcases hst with rfl | rfl | rfl <;> simp at ho ⊢
    all_goals first
      | exact intF_fnc1 _ _ _ _ rfl
      | exact intF_fnc2 _ _ _ _ ⟨by omega, rfl⟩
      | exact intF_fnc3 _ _ _ _ ⟨by omega, rfl⟩
      | exact intF_fnc4 _ _ _ _ (by omega)
  · rw [if_neg h256] at ho ⊢
    unfold valF at ho ⊢
    split at ho
    · rename_i h
      rw [if_pos h]
      simp only
      rw [intF_text _ _ _ _ ⟨by omega, by omega⟩]
      congr 3
      unfold charF
      rw [if_pos (by omega)]; omega
    · rename_i h
      rw [if_neg h]
      split at ho
      · rename_i h'
        rw [if_pos h']
        simp only
        rw [intF_text _ _ _ _ ⟨by omega, by omega⟩]
        congr 3
        unfold charF
        rw [if_neg (by omega)]; omega
      · simp at ho

/-- .. and behind a shift. -/
theorem shift_read {c : Int} (hc : isCh c) {st : Int} (h2 : 2 ≤ st) (h3 : st ≤ 3) (ho : (valF c (5 - st)).2 = true) (acc r : List Int) : intF st acc (98 :: (valF c (5 - st)).1 :: r) = intF st (acc ++ [c]) r := by
  unfold isCh at hc
  rw [intF_shift1 _ _ _ _ _ ⟨by omega, rfl⟩]
  unfold valF at ho ⊢
  split at ho
  · rename_i h
    rw [if_pos h]
    simp only
    rw [if_neg (by omega)]
    congr 3
    unfold charF
    rw [if_pos (by omega)]; omega
  · rename_i h
    rw [if_neg h]
    split at ho
    · rename_i h'
      rw [if_pos h']
      simp only
      rw [if_neg (by omega)]
      congr 3
      unfold charF
      rw [if_neg (by omega)]; omega
    · simp at ho

theorem pair_read {c c' : Int} (h : digB c = true) (h' : digB c' = true) (acc r : List Int) : intF 4 acc ((10 * (c - 48) + c' - 48) :: r) = intF 4 (acc ++ [c, c']) r := by
  unfold digB at h h'
  simp only [decide_eq_true_eq] at h h'
  rw [intF_pair _ _ _ _ ⟨rfl, by omega⟩]
  congr 3
  · omega
  · congr 1; omega

theorem mem_moves2 {cs : List Int} {k : Nat} {m : Mv} (h : m ∈ movesL cs k 2) : m = ⟨98, k, 1⟩ ∨ m = ⟨99, k, 4⟩ ∨ m = ⟨100, k, 3⟩ ∨ ((ownV (cs.getD k 0) 2).2 = true ∧ m = ⟨(ownV (cs.getD k 0) 2).1, (k : Int) + 1, 2⟩) := by
  unfold movesL tailM at h
  simp only [show ¬ ((2 : Int) = 0) by omega, show ¬ ((2 : Int) = 1) by omega, if_false, if_true] at h
  split at h
  · rename_i ho
    simp at h
    rcases h with h | h | h | h
    · exact .inl h
    · exact .inr (.inl h)
    · exact .inr (.inr (.inl h))
    · exact .inr (.inr (.inr ⟨ho, h⟩))
  · simp at h
    rcases h with h | h | h
    · exact .inl h
    · exact .inr (.inl h)
    · exact .inr (.inr (.inl h))

theorem mem_moves3 {cs : List Int} {k : Nat} {m : Mv} (h : m ∈ movesL cs k 3) : m = ⟨98, k, 0⟩ ∨ m = ⟨99, k, 4⟩ ∨ m = ⟨101, k, 2⟩ ∨ ((ownV (cs.getD k 0) 3).2 = true ∧ m = ⟨(ownV (cs.getD k 0) 3).1, (k : Int) + 1, 3⟩) := by
  unfold movesL tailM at h
  simp only [show ¬ ((3 : Int) = 0) by omega, show ¬ ((3 : Int) = 1) by omega, show ¬ ((3 : Int) = 2) by omega, if_false, if_true] at h
  split at h
  · rename_i ho
    simp at h
    rcases h with h | h | h | h
    · exact .inl h
    · exact .inr (.inl h)
    · exact .inr (.inr (.inl h))
    · exact .inr (.inr (.inr ⟨ho, h⟩))
  · simp at h
    rcases h with h | h | h
    · exact .inl h
    · exact .inr (.inl h)
    · exact .inr (.inr (.inl h))

theorem mem_moves4 {cs : List Int} {k : Nat} {m : Mv} (h : m ∈ movesL cs k 4) : m = ⟨100, k, 3⟩ ∨ m = ⟨101, k, 2⟩ ∨
    ((k + 1 < cs.length ∧ digB (cs.getD k 0) = true ∧ digB (cs.getD (k + 1) 0) = true) ∧ m = ⟨10 * (cs.getD k 0 - 48) + cs.getD (k + 1) 0 - 48, (k : Int) + 2, 4⟩) ∨
    ((ownV (cs.getD k 0) 4).2 = true ∧ m = ⟨(ownV (cs.getD k 0) 4).1, (k : Int) + 1, 4⟩) := by
  unfold movesL tailM at h
  simp only [show ¬ ((4 : Int) = 0) by omega, show ¬ ((4 : Int) = 1) by omega, show ¬ ((4 : Int) = 2) by omega, show ¬ ((4 : Int) = 3) by omega, if_false] at h
  rw [List.mem_append, List.mem_append] at h
  rcases h with (h | h) | h
  · simp at h
    rcases h with h | h
    · exact .inl h
    · exact .inr (.inl h)
  · split at h
    · rename_i hp
      simp at h
      exact .inr (.inr (.inl ⟨hp, h⟩))
    · simp at h
  · split at h
    · rename_i ho
      simp at h
      exact .inr (.inr (.inr ⟨ho, h⟩))
    · simp at h

theorem mem_moves0 {cs : List Int} {k : Nat} {m : Mv} (h : m ∈ movesL cs k 0) : (valF (cs.getD k 0) 2).2 = true ∧ m = ⟨(valF (cs.getD k 0) 2).1, (k : Int) + 1, 3⟩ := by
  unfold movesL at h
  simp only [if_true] at h
  split at h
  · rename_i ho; simp at h; exact ⟨ho, h⟩
  · simp at h

theorem mem_moves1 {cs : List Int} {k : Nat} {m : Mv} (h : m ∈ movesL cs k 1) : (valF (cs.getD k 0) 3).2 = true ∧ m = ⟨(valF (cs.getD k 0) 3).1, (k : Int) + 1, 2⟩ := by
  unfold movesL at h
  simp only [show ¬ ((1 : Int) = 0) by omega, if_false, if_true] at h
  split at h
  · rename_i ho; simp at h; exact ⟨ho, h⟩
  · simp at h


theorem go_read {cs : List Int} (hb : badC cs = false) (hn : cs.length ≤ 5000) : ∀ (f k : Nat) (st : Int) (acc : List Int), k ≤ cs.length → 2 ≤ st → st ≤ 4 → costsF cs k st = some (f : Int) → intF st acc (goF cs (costsF cs) f k st) = (acc ++ cs.drop k, 0) := by
  intro f
  induction f using Nat.strongRecOn with
  | _ f ih =>
    intro k st acc hk h2 h4 hf
    have hch := badC_ok hb
    cases f with
    | zero =>
      have : k = cs.length := by
        rcases Nat.lt_or_ge k cs.length with h | h
        · have := (next_ok hn hch h (by omega) h4 hf).1; omega
        · omega
      subst this
      simp [goF, intF]
    | succ f =>
      obtain ⟨hlt, m, j, hp, hm, e1, e2, e3, e4, e5, hj, hg, _⟩ := go_step hb hn hk (by omega) h4 hf
      have hc : isCh (cs.getD k 0) := hch _ (by simp [hlt])
      rw [hg]
      have hst : st = 2 ∨ st = 3 ∨ st = 4 := by omega
      -- behind a shift
      have hsh : ∀ (s t : Int), (s = 2 ∧ t = 1 ∨ s = 3 ∧ t = 0) → st = s → m = ⟨98, k, t⟩ → intF st acc (m.v :: goF cs (costsF cs) f j m.st) = (acc ++ cs.drop k, 0) := by
        intro s t hs hss hmm
        subst hss
        subst hmm
        simp only at e1 e4 e5 hj ⊢
        have hjk : j = k := by omega
        subst hjk
        cases f with
        | zero => have := (next_ok hn hch hlt e4 e5 hj).1; omega
        | succ f =>
          obtain ⟨_, m', j', hp', hm', d1, d2, d3, d4, d5, hj', hg', _⟩ := go_step hb hn hk e4 e5 hj
          rw [hg']
          rcases hs with ⟨rfl, rfl⟩ | ⟨rfl, rfl⟩
          · obtain ⟨ho, rfl⟩ := mem_moves1 hm'
            simp only at d1 hj' ⊢
            have := shift_read hc (st := 2) (by omega) (by omega) ho acc (goF cs (costsF cs) f j' 2)
            rw [show (5 : Int) - 2 = 3 by omega] at this
            rw [this, ih f (by omega) j' 2 _ d3 (by omega) (by omega) hj', show j' = j + 1 by omega, drop_at hlt]; simp
          · obtain ⟨ho, rfl⟩ := mem_moves0 hm'
            simp only at d1 hj' ⊢
            have := shift_read hc (st := 3) (by omega) (by omega) ho acc (goF cs (costsF cs) f j' 3)
            rw [show (5 : Int) - 3 = 2 by omega] at this
            rw [this, ih f (by omega) j' 3 _ d3 (by omega) (by omega) hj', show j' = j + 1 by omega, drop_at hlt]; simp
      rcases hst with rfl | rfl | rfl
      · rcases mem_moves2 hm with h | h | h | ⟨ho, h⟩
        · exact hsh 2 1 (by omega) rfl h
        · subst h
          simp only at e1 e4 e5 hj ⊢
          rw [intF_codeC _ _ _ _ ⟨by omega, rfl⟩, ih f (by omega) j 4 _ e3 (by omega) (by omega) hj, show j = k by omega]
        · subst h
          simp only at e1 e4 e5 hj ⊢
          rw [intF_codeB _ _ _ _ ⟨rfl, by omega⟩, ih f (by omega) j 3 _ e3 (by omega) (by omega) hj, show j = k by omega]
        · subst h
          simp only at e1 e4 e5 hj ⊢
          rw [own_read hc (by omega) (by omega) ho, ih f (by omega) j 2 _ e3 (by omega) (by omega) hj, show j = k + 1 by omega, drop_at hlt]; simp
      · rcases mem_moves3 hm with h | h | h | ⟨ho, h⟩
        · exact hsh 3 0 (by omega) rfl h
        · subst h
          simp only at e1 e4 e5 hj ⊢
          rw [intF_codeC _ _ _ _ ⟨by omega, rfl⟩, ih f (by omega) j 4 _ e3 (by omega) (by omega) hj, show j = k by omega]
        · subst h
          simp only at e1 e4 e5 hj ⊢
          rw [intF_codeA _ _ _ _ ⟨rfl, by omega⟩, ih f (by omega) j 2 _ e3 (by omega) (by omega) hj, show j = k by omega]
        · subst h
          simp only at e1 e4 e5 hj ⊢
          rw [own_read hc (by omega) (by omega) ho, ih f (by omega) j 3 _ e3 (by omega) (by omega) hj, show j = k + 1 by omega, drop_at hlt]; simp
      · rcases mem_moves4 hm with h | h | ⟨⟨p1, p2, p3⟩, h⟩ | ⟨ho, h⟩
        · subst h
          simp only at e1 e4 e5 hj ⊢
          rw [intF_codeB _ _ _ _ ⟨rfl, by omega⟩, ih f (by omega) j 3 _ e3 (by omega) (by omega) hj, show j = k by omega]
        · subst h
          simp only at e1 e4 e5 hj ⊢
          rw [intF_codeA _ _ _ _ ⟨rfl, by omega⟩, ih f (by omega) j 2 _ e3 (by omega) (by omega) hj, show j = k by omega]
        · subst h
          simp only at e1 e4 e5 hj ⊢
          rw [pair_read p2 p3, ih f (by omega) j 4 _ e3 (by omega) (by omega) hj, show j = k + 2 by omega, drop_at hlt, drop_at p1]; simp
        · subst h
          simp only at e1 e4 e5 hj ⊢
          rw [own_read hc (by omega) (by omega) ho, ih f (by omega) j 4 _ e3 (by omega) (by omega) hj, show j = k + 1 by omega, drop_at hlt]; simp

theorem inV_of {hi : Int} : ∀ {vs : List Int}, (∀ v ∈ vs, 0 ≤ v ∧ v ≤ hi) → inV hi vs = true
  | [], _ => rfl
  | x :: r, h => by
    unfold inV
    have hx := h x (by simp)
    rw [if_neg (by omega)]
    exact inV_of (fun v hv => h v (by simp [hv]))

/-- A start value, values, the check value and the stop value: what Chars makes of them. -/
theorem chars_full (s : Int) (l : List Int) (hs : 103 ≤ s ∧ s ≤ 105) (hl : ∀ v ∈ l, 0 ≤ v ∧ v ≤ 106) : charsF ((s :: l) ++ [chkL (s :: l), 106]) = intF (s - 101) [] l := by
  have hck := chkF_range (s :: l) 0 ((s :: l).getD 0 0) (by simp)
  have hck' : 0 ≤ chkL (s :: l) ∧ chkL (s :: l) < 103 := hck
  have hin : inV 106 ((s :: l) ++ [chkL (s :: l), 106]) = true := by
    apply inV_of
    intro v hv
    simp only [List.mem_append, List.mem_cons, List.not_mem_nil, or_false] at hv
    rcases hv with (rfl | hv) | rfl | rfl
    · omega
    · have := hl v hv; omega
    · omega
    · omega
  generalize hk : chkL (s :: l) = ck at *
  unfold charsF
  have hlen : ((s :: l) ++ [ck, 106]).length = l.length + 3 := by simp
  rw [if_neg (by rw [hin]; simp), if_neg (by rw [hlen]; omega)]
  have h0 : ((s :: l) ++ [ck, 106]).getD 0 0 = s := rfl
  rw [h0, if_neg (by omega), hlen]
  have e1 : ((s :: l) ++ [ck, 106]).getD (l.length + 3 - 1) 0 = 106 := by
    rw [List.getD_eq_getElem?_getD, List.getElem?_append_right (by simp)]; simp
  have e2 : ((s :: l) ++ [ck, 106]).getD (l.length + 3 - 2) 0 = ck := by
    rw [List.getD_eq_getElem?_getD, List.getElem?_append_right (by simp)]; simp
  have e3 : ((s :: l) ++ [ck, 106]).take (l.length + 3 - 2) = s :: l := by
    rw [List.take_append_of_le_length (by simp)]; rw [List.take_of_length_le (by simp)]
  rw [e1, if_neg (by simp), e2, e3, hk, if_neg (by simp)]
  rfl

/-- Chars inverts Values. -/
theorem chars_values {cs : List Int} (hb : badC cs = false) (hn : cs.length ≤ 5000) : charsF (seqF cs ++ [chkL (seqF cs), 106]) = (cs, 0) := by
  have hs := start_range hb hn
  obtain ⟨f, hf, he⟩ := seq_parts hb hn
  have hm := (go_mem hb hn f 0 _ (by omega) (by omega) (by omega) hf).1
  have hr := go_read hb hn f 0 _ [] (by omega) (by omega) (by omega) hf
  rw [he, chars_full _ _ hs (fun v hv => by have := hm v hv; omega), hr]
  simp

end Go.Proofs.Ytofedeokliljkaa
