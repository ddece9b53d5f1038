/-
  Plain: one round of the reference's Values is one or two steps of the program's sequence. Condition: at most 5000 characters.
-/
import Derived.Test.YtofedeokliljkaaPlainN
namespace Go.Proofs.Ytofedeokliljkaa

theorem known_bad (c : Int) : knownB c = !decide (c < 0 ∨ (127 < c ∧ c < 256) ∨ 259 < c) := by
  rw [Bool.eq_iff_iff]
  unfold knownB
  simp only [Bool.or_eq_true, decide_eq_true_eq, Bool.not_eq_true', decide_eq_false_iff_not]
  unfold dataF
  repeat' split
  all_goals omega

theorem val_data {c : Int} (h : isCh c) : ((valF c 3).2 = true → (valF c 3).1 = dataF c 1) ∧ ((valF c 2).2 = true → (valF c 2).1 = dataF c 0) := by
  unfold isCh at h
  unfold valF dataF
  constructor
  · repeat' split
    all_goals simp
    all_goals omega
  · repeat' split
    all_goals simp
    all_goals omega

theorem data_no {c : Int} (h : isCh c) : dataF c 0 ≠ 98 ∧ dataF c 0 ≠ 99 ∧ dataF c 0 ≠ 100 ∧ dataF c 1 ≠ 98 ∧ dataF c 1 ≠ 99 ∧ dataF c 1 ≠ 101 := by
  unfold isCh at h
  unfold dataF
  repeat' split
  all_goals omega

section
variable {cs : List Int} (hb : badC cs = false) (hn : cs.length ≤ 5000) {k f : Nat} (hk : k < cs.length)
include hb hn hk

theorem shift_step {st st' : Int} (hs : st = 0 ∨ st = 1) (hst : st' = 3 - st) (hf : costsF cs k st = some (f : Int)) :
    ∃ f2 : Nat, f = f2 + 1 ∧ goF cs (costsF cs) f k st = dataF (cs.getD k 0) st :: goF cs (costsF cs) f2 (k + 1) st' ∧ costsF cs ((k + 1 : Nat) : Int) st' = some (f2 : Int) := by
  have hch := badC_ok hb
  have hc : isCh (cs.getD k 0) := hch _ (by simp [hk])
  obtain ⟨h1, _⟩ := next_ok hn hch hk (by omega) (by omega) hf
  obtain ⟨f2, rfl⟩ : ∃ f2, f = f2 + 1 := ⟨f - 1, by omega⟩
  refine ⟨f2, rfl, ?_⟩
  obtain ⟨_, m, j, _, hm, e1, _, _, _, _, hj, hg, _⟩ := go_step hb hn (Nat.le_of_lt hk) (by omega) (by omega) hf
  have hv := val_data hc
  rcases hs with rfl | rfl
  · obtain ⟨h2, rfl⟩ := mem_moves0 hm
    simp only at e1 hj hg
    obtain rfl : j = k + 1 := by omega
    obtain rfl : st' = 3 := by omega
    rw [hg, hv.2 h2]
    exact ⟨rfl, hj⟩
  · obtain ⟨h2, rfl⟩ := mem_moves1 hm
    simp only at e1 hj hg
    obtain rfl : j = k + 1 := by omega
    obtain rfl : st' = 2 := by omega
    rw [hg, hv.1 h2]
    exact ⟨rfl, hj⟩

theorem ref_step0 (hf : costsF cs k 2 = some ((f + 1 : Nat) : Int)) : ∃ v, choiceF cs k 0 (rowAt cs k) = v ∧ 0 ≤ v ∧ v ≤ 102 ∧
    ((v = 98 ∧ ∃ f2 : Nat, f = f2 + 1 ∧ goF cs (costsF cs) (f + 1) k 2 = 98 :: dataF (cs.getD k 0) 1 :: goF cs (costsF cs) f2 (k + 1) 2 ∧ costsF cs ((k + 1 : Nat) : Int) 2 = some (f2 : Int)) ∨
     (v = 99 ∧ dataF (cs.getD k 0) 0 ≠ 99 ∧ goF cs (costsF cs) (f + 1) k 2 = 99 :: goF cs (costsF cs) f k 4 ∧ costsF cs k 4 = some (f : Int)) ∨
     (v = 100 ∧ dataF (cs.getD k 0) 0 ≠ 100 ∧ goF cs (costsF cs) (f + 1) k 2 = 100 :: goF cs (costsF cs) f k 3 ∧ costsF cs k 3 = some (f : Int)) ∨
     (v = dataF (cs.getD k 0) 0 ∧ v ≠ 98 ∧ goF cs (costsF cs) (f + 1) k 2 = v :: goF cs (costsF cs) f (k + 1) 2 ∧ costsF cs ((k + 1 : Nat) : Int) 2 = some (f : Int))) := by
  have hch := badC_ok hb
  have hc : isCh (cs.getD k 0) := hch _ (by simp [hk])
  have hno := data_no hc
  obtain ⟨_, m, j, hp, hm, e1, _, _, _, _, hj, hg, _⟩ := go_step hb hn (Nat.le_of_lt hk) (by omega) (by omega) hf
  have hv := moves_val hch hk (by omega) (by omega) hm
  refine ⟨m.v, (choice_pick0 hb hn hk hf hp).symm, hv.1, hv.2, ?_⟩
  rcases mem_moves2 hm with rfl | rfl | rfl | ⟨ho, rfl⟩
  · left
    simp only at e1 hj hg ⊢
    obtain rfl : j = k := by omega
    obtain ⟨f2, e, h1, h2⟩ := shift_step hb hn hk (st := 1) (st' := 2) (.inr rfl) (by omega) hj
    exact ⟨trivial, f2, e, by rw [hg, h1], h2⟩
  · right; left
    simp only at e1 hj hg ⊢
    obtain rfl : j = k := by omega
    exact ⟨trivial, hno.2.1, hg, hj⟩
  · right; right; left
    simp only at e1 hj hg ⊢
    obtain rfl : j = k := by omega
    exact ⟨trivial, hno.2.2.1, hg, hj⟩
  · right; right; right
    have hd := (data_own hc).2.2.1 ho
    simp only at e1 hj hg ⊢
    obtain rfl : j = k + 1 := by omega
    exact ⟨hd, by rw [hd]; exact hno.1, hg, hj⟩

theorem ref_step1 (hf : costsF cs k 3 = some ((f + 1 : Nat) : Int)) : ∃ v, choiceF cs k 1 (rowAt cs k) = v ∧ 0 ≤ v ∧ v ≤ 102 ∧
    ((v = 98 ∧ ∃ f2 : Nat, f = f2 + 1 ∧ goF cs (costsF cs) (f + 1) k 3 = 98 :: dataF (cs.getD k 0) 0 :: goF cs (costsF cs) f2 (k + 1) 3 ∧ costsF cs ((k + 1 : Nat) : Int) 3 = some (f2 : Int)) ∨
     (v = 99 ∧ dataF (cs.getD k 0) 1 ≠ 99 ∧ goF cs (costsF cs) (f + 1) k 3 = 99 :: goF cs (costsF cs) f k 4 ∧ costsF cs k 4 = some (f : Int)) ∨
     (v = 101 ∧ dataF (cs.getD k 0) 1 ≠ 101 ∧ goF cs (costsF cs) (f + 1) k 3 = 101 :: goF cs (costsF cs) f k 2 ∧ costsF cs k 2 = some (f : Int)) ∨
     (v = dataF (cs.getD k 0) 1 ∧ v ≠ 98 ∧ goF cs (costsF cs) (f + 1) k 3 = v :: goF cs (costsF cs) f (k + 1) 3 ∧ costsF cs ((k + 1 : Nat) : Int) 3 = some (f : Int))) := by
  have hch := badC_ok hb
  have hc : isCh (cs.getD k 0) := hch _ (by simp [hk])
  have hno := data_no hc
  obtain ⟨_, m, j, hp, hm, e1, _, _, _, _, hj, hg, _⟩ := go_step hb hn (Nat.le_of_lt hk) (by omega) (by omega) hf
  have hv := moves_val hch hk (by omega) (by omega) hm
  refine ⟨m.v, (choice_pick1 hb hn hk hf hp).symm, hv.1, hv.2, ?_⟩
  rcases mem_moves3 hm with rfl | rfl | rfl | ⟨ho, rfl⟩
  · left
    simp only at e1 hj hg ⊢
    obtain rfl : j = k := by omega
    obtain ⟨f2, e, h1, h2⟩ := shift_step hb hn hk (st := 0) (st' := 3) (.inl rfl) (by omega) hj
    exact ⟨trivial, f2, e, by rw [hg, h1], h2⟩
  · right; left
    simp only at e1 hj hg ⊢
    obtain rfl : j = k := by omega
    exact ⟨trivial, hno.2.2.2.2.1, hg, hj⟩
  · right; right; left
    simp only at e1 hj hg ⊢
    obtain rfl : j = k := by omega
    exact ⟨trivial, hno.2.2.2.2.2, hg, hj⟩
  · right; right; right
    have hd := (data_own hc).2.2.2.1 ho
    simp only at e1 hj hg ⊢
    obtain rfl : j = k + 1 := by omega
    exact ⟨hd, by rw [hd]; exact hno.2.2.2.1, hg, hj⟩

theorem ref_step2 (hf : costsF cs k 4 = some ((f + 1 : Nat) : Int)) : ∃ v, choiceF cs k 2 (rowAt cs k) = v ∧ 0 ≤ v ∧ v ≤ 102 ∧
    ((v = 100 ∧ goF cs (costsF cs) (f + 1) k 4 = 100 :: goF cs (costsF cs) f k 3 ∧ costsF cs k 3 = some (f : Int)) ∨
     (v = 101 ∧ goF cs (costsF cs) (f + 1) k 4 = 101 :: goF cs (costsF cs) f k 2 ∧ costsF cs k 2 = some (f : Int)) ∨
     (v ≤ 99 ∧ k + 2 ≤ cs.length ∧ goF cs (costsF cs) (f + 1) k 4 = v :: goF cs (costsF cs) f (k + 2) 4 ∧ costsF cs ((k + 2 : Nat) : Int) 4 = some (f : Int)) ∨
     (v = 102 ∧ goF cs (costsF cs) (f + 1) k 4 = 102 :: goF cs (costsF cs) f (k + 1) 4 ∧ costsF cs ((k + 1 : Nat) : Int) 4 = some (f : Int))) := by
  have hch := badC_ok hb
  have hc : isCh (cs.getD k 0) := hch _ (by simp [hk])
  obtain ⟨_, m, j, hp, hm, e1, _, e3, _, _, hj, hg, _⟩ := go_step hb hn (Nat.le_of_lt hk) (by omega) (by omega) hf
  have hv := moves_val hch hk (by omega) (by omega) hm
  refine ⟨m.v, (choice_pick2 hb hn hk hf hp).symm, hv.1, hv.2, ?_⟩
  rcases mem_moves4 hm with rfl | rfl | ⟨hd, rfl⟩ | ⟨ho, rfl⟩
  · left
    simp only at e1 hj hg ⊢
    obtain rfl : j = k := by omega
    exact ⟨trivial, hg, hj⟩
  · right; left
    simp only at e1 hj hg ⊢
    obtain rfl : j = k := by omega
    exact ⟨trivial, hg, hj⟩
  · right; right; left
    obtain ⟨_, p2, p3⟩ := hd
    unfold digB at p2 p3
    simp only [Bool.and_eq_true, decide_eq_true_eq] at p2 p3
    simp only at e1 hj hg ⊢
    obtain rfl : j = k + 2 := by omega
    exact ⟨by omega, e3, hg, hj⟩
  · right; right; right
    have hd := (data_own hc).2.2.2.2.2.2.2 ho
    simp only at e1 hj hg ⊢
    obtain rfl : j = k + 1 := by omega
    rw [hd] at hg ⊢
    exact ⟨rfl, hg, hj⟩

omit hb in
theorem row_bounds : (0 ≤ (rowAt cs k).u0 ∧ (rowAt cs k).u0 ≤ 2199023255552) ∧ (0 ≤ (rowAt cs k).u1 ∧ (rowAt cs k).u1 ≤ 2199023255552) ∧ (0 ≤ (rowAt cs k).u2 ∧ (rowAt cs k).u2 ≤ 2199023255552) ∧
    ((rowAt cs k).u2 = (rowAt cs k).a2 → cs.getD k 0 ≠ 256 → k + 1 < cs.length) := by
  have b1 := rowAt_bnd cs (k + 1)
  have b2 := rowAt_bnd cs (k + 2)
  have b0 := rowAt_bnd cs k
  obtain ⟨ub0, ub1, ub2⟩ := used_bnd cs k (rowAt cs (k + 1)) (rowAt cs (k + 2)) _ _ b1 b2
  unfold bndR at b0 b1 b2
  have hr := rowAt_step cs k hk
  have hu2 : (rowAt cs k).u2 = usedF cs k 2 (rowAt cs (k + 1)).a0 (rowAt cs (k + 1)).a1 (rowAt cs (k + 1)).a2 (rowAt cs (k + 2)).a2 := by rw [hr]; rfl
  have hu0 : (rowAt cs k).u0 = usedF cs k 0 (rowAt cs (k + 1)).a0 (rowAt cs (k + 1)).a1 (rowAt cs (k + 1)).a2 (rowAt cs (k + 2)).a2 := by rw [hr]; rfl
  have hu1 : (rowAt cs k).u1 = usedF cs k 1 (rowAt cs (k + 1)).a0 (rowAt cs (k + 1)).a1 (rowAt cs (k + 1)).a2 (rowAt cs (k + 2)).a2 := by rw [hr]; rfl
  rw [← hu0] at ub0
  rw [← hu1] at ub1
  rw [← hu2] at ub2
  have hu3 : (rowAt cs k).u2 = if cs.getD k 0 = 256 then 1 + (rowAt cs (k + 1)).a2 else if k + 1 < cs.length ∧ digB (cs.getD k 0) = true ∧ digB (cs.getD (k + 1) 0) = true then 1 + (rowAt cs (k + 2)).a2 else 1099511627776 := by rw [hu2]; unfold usedF; simp
  refine ⟨by omega, by omega, ⟨by omega, ?_⟩, fun h1 h2 => ?_⟩
  · rw [hu3]; (repeat' split) <;> omega
  · rw [if_neg h2] at hu3
    split at hu3
    · rename_i h; exact h.1
    · omega

omit hk in
theorem start_use (h0 : 0 < cs.length) : startF (costsF cs) = if (rowAt cs 0).u1 < (rowAt cs 0).u0 then (if (rowAt cs 0).u2 < (rowAt cs 0).u1 then 105 else 104) else (if (rowAt cs 0).u2 < (rowAt cs 0).u0 then 105 else 103) := by
  obtain ⟨_, _, g2, g3, g4⟩ := costs_good cs hn (badC_ok hb) 0 (by omega)
  have hr := rowAt_step cs 0 h0
  have ha0 : (rowAt cs 0).a0 = mn (rowAt cs 0).u0 (rowAt cs 0).u0 (rowAt cs 0).u1 (rowAt cs 0).u2 := by rw [hr]; rfl
  have ha1 : (rowAt cs 0).a1 = mn (rowAt cs 0).u1 (rowAt cs 0).u0 (rowAt cs 0).u1 (rowAt cs 0).u2 := by rw [hr]; rfl
  have ha2 : (rowAt cs 0).a2 = mn (rowAt cs 0).u2 (rowAt cs 0).u0 (rowAt cs 0).u1 (rowAt cs 0).u2 := by rw [hr]; rfl
  rw [ha0] at g2; rw [ha1] at g3; rw [ha2] at g4
  clear ha0 ha1 ha2 hr
  generalize (rowAt cs 0).u0 = u0 at *
  generalize (rowAt cs 0).u1 = u1 at *
  generalize (rowAt cs 0).u2 = u2 at *
  have e2 : costsF cs 0 2 = some (mn u0 u0 u1 u2) := g2
  have e3 : costsF cs 0 3 = some (mn u1 u0 u1 u2) := g3
  have e4 : costsF cs 0 4 = some (mn u2 u0 u1 u2) := g4
  unfold startF
  simp only [e2, e3, e4, Option.getD_some]
  unfold mn
  by_cases h1 : min (min (min u1 (1 + u0)) (1 + u1)) (1 + u2) < min (min (min u0 (1 + u0)) (1 + u1)) (1 + u2)
  · rw [if_pos h1]
    simp only [show (104 : Int) - 101 = 3 from rfl, e3, Option.getD_some]
    unfold mn
    (repeat' split) <;> omega
  · rw [if_neg h1]
    simp only [show (103 : Int) - 101 = 2 from rfl, e2, Option.getD_some]
    unfold mn
    (repeat' split) <;> omega
end

end Go.Proofs.Ytofedeokliljkaa
