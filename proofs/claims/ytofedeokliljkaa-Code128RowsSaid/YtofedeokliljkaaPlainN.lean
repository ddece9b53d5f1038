/-
  Plain: the reference's choice is the program's. Condition: at most 5000 characters.
-/
import Derived.Test.YtofedeokliljkaaPlainL
namespace Go.Proofs.Ytofedeokliljkaa

/-- The least of a value and the value that selects the code set t, where this is as short. -/
def minT (u a t b : Int) : Int := if 1 + u = a then (if 101 - t < b then 101 - t else b) else b

/-- The first choice: by a character. -/
def ch0 (cs : List Int) (k : Nat) (set u a : Int) : Int :=
  if u = a then (if set = 2 ∧ cs.getD k 0 = 256 then 102 else if set = 2 then 10 * (cs.getD k 0 - 48) + cs.getD (k + 1) 0 - 48 else if 0 ≤ dataF (cs.getD k 0) set then dataF (cs.getD k 0) set else 98) else 200

def choiceF (cs : List Int) (k : Nat) (set : Int) (r : R6) : Int :=
  if set = 0 then minT r.u2 r.a0 2 (minT r.u1 r.a0 1 (ch0 cs k 0 r.u0 r.a0))
  else if set = 1 then minT r.u2 r.a1 2 (minT r.u0 r.a1 0 (ch0 cs k 1 r.u1 r.a1))
  else minT r.u1 r.a2 1 (minT r.u0 r.a2 0 (ch0 cs k 2 r.u2 r.a2))

def dataB (c : Int) : Bool :=
  (((ownV c 2).2 == decide (0 ≤ dataF c 0)) && ((ownV c 3).2 == decide (0 ≤ dataF c 1))) && ((!(ownV c 2).2 || decide ((ownV c 2).1 = dataF c 0)) && (!(ownV c 3).2 || decide ((ownV c 3).1 = dataF c 1))) &&
  (((ownV c 2).2 || ((valF c 3).2 && decide ((valF c 3).1 = dataF c 1))) && ((ownV c 3).2 || ((valF c 2).2 && decide ((valF c 2).1 = dataF c 0)))) && ((ownV c 4).2 == decide (c = 256)) && (!(ownV c 4).2 || decide ((ownV c 4).1 = 102))
theorem data_all : ∀ x : Nat, x < 260 → (decide (x ≤ 127) || decide (256 ≤ x)) = true → dataB x = true := by decide +kernel

theorem data_own {c : Int} (h : isCh c) : ((ownV c 2).2 = true ↔ 0 ≤ dataF c 0) ∧ ((ownV c 3).2 = true ↔ 0 ≤ dataF c 1) ∧ ((ownV c 2).2 = true → (ownV c 2).1 = dataF c 0) ∧ ((ownV c 3).2 = true → (ownV c 3).1 = dataF c 1) ∧
    ((ownV c 2).2 = false → (valF c 3).2 = true ∧ (valF c 3).1 = dataF c 1) ∧ ((ownV c 3).2 = false → (valF c 2).2 = true ∧ (valF c 2).1 = dataF c 0) ∧ ((ownV c 4).2 = true ↔ c = 256) ∧ ((ownV c 4).2 = true → (ownV c 4).1 = 102) := by
  obtain ⟨x, rfl⟩ : ∃ x : Nat, c = x := ⟨c.toNat, by unfold isCh at h; omega⟩
  have hk := data_all x (by unfold isCh at h; omega) (by unfold isCh at h; simp; omega)
  unfold dataB at hk
  simp only [Bool.and_eq_true, Bool.or_eq_true, beq_iff_eq, Bool.not_eq_true', decide_eq_true_eq] at hk
  obtain ⟨⟨⟨⟨⟨h1, h2⟩, h3, h4⟩, h5, h6⟩, h7⟩, h8⟩ := hk
  refine ⟨by rw [h1]; simp, by rw [h2]; simp, fun e => ?_, fun e => ?_, fun e => ?_, fun e => ?_, by rw [h7]; simp, fun e => ?_⟩
  · rcases h3 with h | h
    · rw [e] at h; cases h
    · exact h
  · rcases h4 with h | h
    · rw [e] at h; cases h
    · exact h
  · rcases h5 with h | h
    · rw [e] at h; cases h
    · exact h
  · rcases h6 with h | h
    · rw [e] at h; cases h
    · exact h
  · rcases h8 with h | h
    · rw [e] at h; cases h
    · exact h

theorem sel01 (u0 u1 u2 : Int) : mn u1 u0 u1 u2 = mn u0 u0 u1 u2 - 1 ↔ 1 + u1 = mn u0 u0 u1 u2 := by unfold mn; omega
theorem sel02 (u0 u1 u2 : Int) : mn u2 u0 u1 u2 = mn u0 u0 u1 u2 - 1 ↔ 1 + u2 = mn u0 u0 u1 u2 := by unfold mn; omega
theorem sel10 (u0 u1 u2 : Int) : mn u0 u0 u1 u2 = mn u1 u0 u1 u2 - 1 ↔ 1 + u0 = mn u1 u0 u1 u2 := by unfold mn; omega
theorem sel12 (u0 u1 u2 : Int) : mn u2 u0 u1 u2 = mn u1 u0 u1 u2 - 1 ↔ 1 + u2 = mn u1 u0 u1 u2 := by unfold mn; omega
theorem sel20 (u0 u1 u2 : Int) : mn u0 u0 u1 u2 = mn u2 u0 u1 u2 - 1 ↔ 1 + u0 = mn u2 u0 u1 u2 := by unfold mn; omega
theorem sel21 (u0 u1 u2 : Int) : mn u1 u0 u1 u2 = mn u2 u0 u1 u2 - 1 ↔ 1 + u1 = mn u2 u0 u1 u2 := by unfold mn; omega

theorem choice_pick0 {cs : List Int} (hb : badC cs = false) (hn : cs.length ≤ 5000) {k f : Nat} (hk : k < cs.length) (hf : costsF cs k 2 = some ((f + 1 : Nat) : Int)) {m : Mv}
    (hp : pickF (costsF cs) ((f : Int) + 1) (movesL cs k 2) = some m) : m.v = choiceF cs k 0 (rowAt cs k) := by
  have hch := badC_ok hb
  have hc : isCh (cs.getD k 0) := hch _ (by simp [hk])
  obtain ⟨o2, o3, p2, p3, n2, n3, o4, p4⟩ := data_own hc
  obtain ⟨_, m', j, hp', hm, e1, e2, e3, e4, e5, hj, _, hmin⟩ := go_step hb hn (Nat.le_of_lt hk) (by omega) (by omega) hf
  rw [hp] at hp'
  obtain rfl : m = m' := Option.some.inj hp'
  obtain ⟨g0, g1, g2, g3, g4⟩ := costs_good cs hn hch k (Nat.le_of_lt hk)
  obtain ⟨_, _, d2, d3, d4⟩ := costs_good cs hn hch (k + 1) hk
  rw [rowAt_step cs k hk] at g2 g3 g4 ⊢
  unfold rowF mkRow at g2 g3 g4 ⊢
  simp only at g2 g3 g4 ⊢
  obtain ⟨u0, hu0⟩ : ∃ u, usedF cs k 0 (rowAt cs (k + 1)).a0 (rowAt cs (k + 1)).a1 (rowAt cs (k + 1)).a2 (rowAt cs (k + 2)).a2 = u := ⟨_, rfl⟩
  obtain ⟨u1, hu1⟩ : ∃ u, usedF cs k 1 (rowAt cs (k + 1)).a0 (rowAt cs (k + 1)).a1 (rowAt cs (k + 1)).a2 (rowAt cs (k + 2)).a2 = u := ⟨_, rfl⟩
  obtain ⟨u2, hu2⟩ : ∃ u, usedF cs k 2 (rowAt cs (k + 1)).a0 (rowAt cs (k + 1)).a1 (rowAt cs (k + 1)).a2 (rowAt cs (k + 2)).a2 = u := ⟨_, rfl⟩
  rw [hu0, hu1, hu2] at g2 g3 g4 ⊢
  have t1 := sel01 u0 u1 u2
  have t2 := sel02 u0 u1 u2
  have hle := (@mn_le u0 u0 u1 u2).1
  rw [g2] at hf
  simp only [Option.some.injEq] at hf
  have hu : u0 = (if 0 ≤ dataF (cs.getD k 0) 0 then 1 else 2) + (rowAt cs (k + 1)).a0 := by rw [← hu0]; unfold usedF; simp
  have q98 : (valF (cs.getD k 0) 3).2 = true → (rowAt cs (k + 1)).a0 + 1 = f → m.v ≤ 98 := fun h1 h2 => hmin ⟨98, k, 1⟩ (by unfold movesL; simp) (by
    show costsF cs (k : Int) 1 = _
    rw [g1, if_pos ⟨hk, h1⟩]; congr 1; omega)
  have q100 : mn u1 u0 u1 u2 = f → m.v ≤ 100 := fun h1 => hmin ⟨100, k, 3⟩ (by unfold movesL; simp) (by
    show costsF cs (k : Int) 3 = _
    rw [g3]; congr 1; omega)
  have q99 : mn u2 u0 u1 u2 = f → m.v ≤ 99 := fun h1 => hmin ⟨99, k, 4⟩ (by unfold movesL; simp) (by
    show costsF cs (k : Int) 4 = _
    rw [g4]; congr 1; omega)
  have qown : (ownV (cs.getD k 0) 2).2 = true → (rowAt cs (k + 1)).a0 = f → m.v ≤ (ownV (cs.getD k 0) 2).1 := fun h1 h2 => hmin ⟨(ownV (cs.getD k 0) 2).1, (k : Int) + 1, 2⟩ (moves2_own (by omega) (by rw [← h1])) (by
    show costsF cs ((k : Int) + 1) 2 = _
    have : costsF cs ((k : Int) + 1) 2 = some (rowAt cs (k + 1)).a0 := by exact_mod_cast d2
    rw [this]; congr 1; omega)
  have hcase : (m.v = 98 ∧ (valF (cs.getD k 0) 3).2 = true ∧ (rowAt cs (k + 1)).a0 + 1 = f) ∨ (m.v = 100 ∧ mn u1 u0 u1 u2 = f) ∨ (m.v = 99 ∧ mn u2 u0 u1 u2 = f) ∨ ((ownV (cs.getD k 0) 2).2 = true ∧ m.v = (ownV (cs.getD k 0) 2).1 ∧ (rowAt cs (k + 1)).a0 = f) := by
    rcases mem_moves2 hm with rfl | rfl | rfl | ⟨ho, rfl⟩
    · left
      simp only at e1 hj
      obtain rfl : j = k := by omega
      rw [g1] at hj
      split at hj
      · rename_i hh; simp only [Option.some.injEq] at hj; exact ⟨rfl, hh.2, hj⟩
      · cases hj
    · right; right; left
      simp only at e1 hj
      obtain rfl : j = k := by omega
      rw [g4] at hj
      simp only [Option.some.injEq] at hj
      exact ⟨rfl, hj⟩
    · right; left
      simp only at e1 hj
      obtain rfl : j = k := by omega
      rw [g3] at hj
      simp only [Option.some.injEq] at hj
      exact ⟨rfl, hj⟩
    · right; right; right
      simp only at e1 hj
      obtain rfl : j = k + 1 := by omega
      rw [d2] at hj
      simp only [Option.some.injEq] at hj
      exact ⟨ho, rfl, hj⟩
  unfold choiceF minT ch0
  simp only [show ¬ ((0 : Int) = 2) by omega, if_true, if_false, false_and]
  generalize mn u0 u0 u1 u2 = A0 at *
  generalize mn u1 u0 u1 u2 = A1 at *
  generalize mn u2 u0 u1 u2 = A2 at *
  generalize dataF (cs.getD k 0) 0 = dd at *
  generalize (ownV (cs.getD k 0) 2) = ow at *
  generalize valF (cs.getD k 0) 3 = vv at *
  by_cases ho : 0 ≤ dd
  · have how := o2.2 ho
    have hov := p2 how
    have qo := qown how
    rw [if_pos ho] at hu ⊢
    clear qown p2 o2 n2 o3 p3 n3 o4 p4 hu0 hu1 hu2 g0 g1 g2 g3 g4 d2 d3 d4 hmin
    rcases hcase with ⟨h1, _, h2⟩ | ⟨h1, h2⟩ | ⟨h1, h2⟩ | ⟨_, h1, h2⟩ <;> (repeat' split) <;> omega
  · have how : ow.2 = false := by
      rcases Bool.eq_false_or_eq_true ow.2 with h | h
      · exact absurd (o2.1 h) ho
      · exact h
    have hvv := (n2 how).1
    have q9 := q98 hvv
    rw [if_neg ho] at hu ⊢
    clear qown q98 p2 o2 n2 o3 p3 n3 o4 p4 hu0 hu1 hu2 g0 g1 g2 g3 g4 d2 d3 d4 hmin
    rcases hcase with ⟨h1, _, h2⟩ | ⟨h1, h2⟩ | ⟨h1, h2⟩ | ⟨h0, h1, h2⟩
    · (repeat' split) <;> omega
    · (repeat' split) <;> omega
    · (repeat' split) <;> omega
    · rw [how] at h0; cases h0

theorem choice_pick1 {cs : List Int} (hb : badC cs = false) (hn : cs.length ≤ 5000) {k f : Nat} (hk : k < cs.length) (hf : costsF cs k 3 = some ((f + 1 : Nat) : Int)) {m : Mv}
    (hp : pickF (costsF cs) ((f : Int) + 1) (movesL cs k 3) = some m) : m.v = choiceF cs k 1 (rowAt cs k) := by
  have hch := badC_ok hb
  have hc : isCh (cs.getD k 0) := hch _ (by simp [hk])
  obtain ⟨o2, o3, p2, p3, n2, n3, o4, p4⟩ := data_own hc
  obtain ⟨_, m', j, hp', hm, e1, e2, e3, e4, e5, hj, _, hmin⟩ := go_step hb hn (Nat.le_of_lt hk) (by omega) (by omega) hf
  rw [hp] at hp'
  obtain rfl : m = m' := Option.some.inj hp'
  obtain ⟨g0, g1, g2, g3, g4⟩ := costs_good cs hn hch k (Nat.le_of_lt hk)
  obtain ⟨_, _, d2, d3, d4⟩ := costs_good cs hn hch (k + 1) hk
  rw [rowAt_step cs k hk] at g2 g3 g4 ⊢
  unfold rowF mkRow at g2 g3 g4 ⊢
  simp only at g2 g3 g4 ⊢
  obtain ⟨u0, hu0⟩ : ∃ u, usedF cs k 0 (rowAt cs (k + 1)).a0 (rowAt cs (k + 1)).a1 (rowAt cs (k + 1)).a2 (rowAt cs (k + 2)).a2 = u := ⟨_, rfl⟩
  obtain ⟨u1, hu1⟩ : ∃ u, usedF cs k 1 (rowAt cs (k + 1)).a0 (rowAt cs (k + 1)).a1 (rowAt cs (k + 1)).a2 (rowAt cs (k + 2)).a2 = u := ⟨_, rfl⟩
  obtain ⟨u2, hu2⟩ : ∃ u, usedF cs k 2 (rowAt cs (k + 1)).a0 (rowAt cs (k + 1)).a1 (rowAt cs (k + 1)).a2 (rowAt cs (k + 2)).a2 = u := ⟨_, rfl⟩
  rw [hu0, hu1, hu2] at g2 g3 g4 ⊢
  have t1 := sel10 u0 u1 u2
  have t2 := sel12 u0 u1 u2
  have hle := (@mn_le u1 u0 u1 u2).1
  rw [g3] at hf
  simp only [Option.some.injEq] at hf
  have hu : u1 = (if 0 ≤ dataF (cs.getD k 0) 1 then 1 else 2) + (rowAt cs (k + 1)).a1 := by rw [← hu1]; unfold usedF; simp
  have q98 : (valF (cs.getD k 0) 2).2 = true → (rowAt cs (k + 1)).a1 + 1 = f → m.v ≤ 98 := fun h1 h2 => hmin ⟨98, k, 0⟩ (by unfold movesL; simp) (by
    show costsF cs (k : Int) 0 = _
    rw [g0, if_pos ⟨hk, h1⟩]; congr 1; omega)
  have q101 : mn u0 u0 u1 u2 = f → m.v ≤ 101 := fun h1 => hmin ⟨101, k, 2⟩ (by unfold movesL; simp) (by
    show costsF cs (k : Int) 2 = _
    rw [g2]; congr 1; omega)
  have q99 : mn u2 u0 u1 u2 = f → m.v ≤ 99 := fun h1 => hmin ⟨99, k, 4⟩ (by unfold movesL; simp) (by
    show costsF cs (k : Int) 4 = _
    rw [g4]; congr 1; omega)
  have qown : (ownV (cs.getD k 0) 3).2 = true → (rowAt cs (k + 1)).a1 = f → m.v ≤ (ownV (cs.getD k 0) 3).1 := fun h1 h2 => hmin ⟨(ownV (cs.getD k 0) 3).1, (k : Int) + 1, 3⟩ (moves2_own (by omega) (by rw [← h1])) (by
    show costsF cs ((k : Int) + 1) 3 = _
    have : costsF cs ((k : Int) + 1) 3 = some (rowAt cs (k + 1)).a1 := by exact_mod_cast d3
    rw [this]; congr 1; omega)
  have hcase : (m.v = 98 ∧ (valF (cs.getD k 0) 2).2 = true ∧ (rowAt cs (k + 1)).a1 + 1 = f) ∨ (m.v = 101 ∧ mn u0 u0 u1 u2 = f) ∨ (m.v = 99 ∧ mn u2 u0 u1 u2 = f) ∨ ((ownV (cs.getD k 0) 3).2 = true ∧ m.v = (ownV (cs.getD k 0) 3).1 ∧ (rowAt cs (k + 1)).a1 = f) := by
    rcases mem_moves3 hm with rfl | rfl | rfl | ⟨ho, rfl⟩
    · left
      simp only at e1 hj
      obtain rfl : j = k := by omega
      rw [g0] at hj
      split at hj
      · rename_i hh; simp only [Option.some.injEq] at hj; exact ⟨rfl, hh.2, hj⟩
      · cases hj
    · right; right; left
      simp only at e1 hj
      obtain rfl : j = k := by omega
      rw [g4] at hj
      simp only [Option.some.injEq] at hj
      exact ⟨rfl, hj⟩
    · right; left
      simp only at e1 hj
      obtain rfl : j = k := by omega
      rw [g2] at hj
      simp only [Option.some.injEq] at hj
      exact ⟨rfl, hj⟩
    · right; right; right
      simp only at e1 hj
      obtain rfl : j = k + 1 := by omega
      rw [d3] at hj
      simp only [Option.some.injEq] at hj
      exact ⟨ho, rfl, hj⟩
  unfold choiceF minT ch0
  simp only [show ¬ ((1 : Int) = 2) by omega, show ¬ ((1 : Int) = 0) by omega, if_true, if_false, false_and]
  generalize mn u0 u0 u1 u2 = A0 at *
  generalize mn u1 u0 u1 u2 = A1 at *
  generalize mn u2 u0 u1 u2 = A2 at *
  generalize dataF (cs.getD k 0) 1 = dd at *
  generalize (ownV (cs.getD k 0) 3) = ow at *
  generalize valF (cs.getD k 0) 2 = vv at *
  by_cases ho : 0 ≤ dd
  · have how := o3.2 ho
    have hov := p3 how
    have qo := qown how
    rw [if_pos ho] at hu ⊢
    clear qown p2 o2 n2 o3 p3 n3 o4 p4 hu0 hu1 hu2 g0 g1 g2 g3 g4 d2 d3 d4 hmin
    rcases hcase with ⟨h1, _, h2⟩ | ⟨h1, h2⟩ | ⟨h1, h2⟩ | ⟨_, h1, h2⟩ <;> (repeat' split) <;> omega
  · have how : ow.2 = false := by
      rcases Bool.eq_false_or_eq_true ow.2 with h | h
      · exact absurd (o3.1 h) ho
      · exact h
    have hvv := (n3 how).1
    have q9 := q98 hvv
    rw [if_neg ho] at hu ⊢
    clear qown q98 p2 o2 n2 o3 p3 n3 o4 p4 hu0 hu1 hu2 g0 g1 g2 g3 g4 d2 d3 d4 hmin
    rcases hcase with ⟨h1, _, h2⟩ | ⟨h1, h2⟩ | ⟨h1, h2⟩ | ⟨h0, h1, h2⟩
    · (repeat' split) <;> omega
    · (repeat' split) <;> omega
    · (repeat' split) <;> omega
    · rw [how] at h0; cases h0

set_option maxHeartbeats 2000000 in
theorem choice_pick2 {cs : List Int} (hb : badC cs = false) (hn : cs.length ≤ 5000) {k f : Nat} (hk : k < cs.length) (hf : costsF cs k 4 = some ((f + 1 : Nat) : Int)) {m : Mv}
    (hp : pickF (costsF cs) ((f : Int) + 1) (movesL cs k 4) = some m) : m.v = choiceF cs k 2 (rowAt cs k) := by
  have hch := badC_ok hb
  have hc : isCh (cs.getD k 0) := hch _ (by simp [hk])
  obtain ⟨_, _, _, _, _, _, o4, p4⟩ := data_own hc
  obtain ⟨_, m', j, hp', hm, e1, e2, e3, e4, e5, hj, _, hmin⟩ := go_step hb hn (Nat.le_of_lt hk) (by omega) (by omega) hf
  rw [hp] at hp'
  obtain rfl : m = m' := Option.some.inj hp'
  obtain ⟨_, _, g2, g3, g4⟩ := costs_good cs hn hch k (Nat.le_of_lt hk)
  obtain ⟨_, _, _, _, d4⟩ := costs_good cs hn hch (k + 1) hk
  have b1 := rowAt_bnd cs (k + 1)
  have b2 := rowAt_bnd cs (k + 2)
  obtain ⟨⟨_, ub0⟩, _, _⟩ := used_bnd cs k (rowAt cs (k + 1)) (rowAt cs (k + 2)) _ _ b1 b2
  rw [rowAt_step cs k hk] at g2 g3 g4 ⊢
  unfold rowF mkRow at g2 g3 g4 ⊢
  simp only at g2 g3 g4 ⊢
  obtain ⟨u0, hu0⟩ : ∃ u, usedF cs k 0 (rowAt cs (k + 1)).a0 (rowAt cs (k + 1)).a1 (rowAt cs (k + 1)).a2 (rowAt cs (k + 2)).a2 = u := ⟨_, rfl⟩
  obtain ⟨u1, hu1⟩ : ∃ u, usedF cs k 1 (rowAt cs (k + 1)).a0 (rowAt cs (k + 1)).a1 (rowAt cs (k + 1)).a2 (rowAt cs (k + 2)).a2 = u := ⟨_, rfl⟩
  obtain ⟨u2, hu2⟩ : ∃ u, usedF cs k 2 (rowAt cs (k + 1)).a0 (rowAt cs (k + 1)).a1 (rowAt cs (k + 1)).a2 (rowAt cs (k + 2)).a2 = u := ⟨_, rfl⟩
  rw [hu0] at ub0
  rw [hu0, hu1, hu2] at g2 g3 g4 ⊢
  have t1 := sel20 u0 u1 u2
  have t2 := sel21 u0 u1 u2
  have hle := (@mn_le u2 u0 u1 u2).1
  have hle0 := (@mn_le u2 u0 u1 u2).2.1
  rw [g4] at hf
  simp only [Option.some.injEq] at hf
  have hu : u2 = if cs.getD k 0 = 256 then 1 + (rowAt cs (k + 1)).a2 else if k + 1 < cs.length ∧ digB (cs.getD k 0) = true ∧ digB (cs.getD (k + 1) 0) = true then 1 + (rowAt cs (k + 2)).a2 else 1099511627776 := by rw [← hu2]; unfold usedF; simp
  have q100 : mn u1 u0 u1 u2 = f → m.v ≤ 100 := fun h1 => hmin ⟨100, k, 3⟩ (by unfold movesL; simp) (by
    show costsF cs (k : Int) 3 = _
    rw [g3]; congr 1; omega)
  have q101 : mn u0 u0 u1 u2 = f → m.v ≤ 101 := fun h1 => hmin ⟨101, k, 2⟩ (by unfold movesL; simp) (by
    show costsF cs (k : Int) 2 = _
    rw [g2]; congr 1; omega)
  have qown : cs.getD k 0 = 256 → (rowAt cs (k + 1)).a2 = f → m.v ≤ 102 := fun h1 h2 => by
    have ho := o4.2 h1
    have := hmin ⟨(ownV (cs.getD k 0) 4).1, (k : Int) + 1, 4⟩ (moves2_own (by omega) (by rw [← ho])) (by
      show costsF cs ((k : Int) + 1) 4 = _
      have : costsF cs ((k : Int) + 1) 4 = some (rowAt cs (k + 1)).a2 := by exact_mod_cast d4
      rw [this]; congr 1; omega)
    simp only at this
    rw [p4 ho] at this; exact this
  have dig : (k + 1 < cs.length ∧ digB (cs.getD k 0) = true ∧ digB (cs.getD (k + 1) 0) = true) → cs.getD k 0 ≠ 256 ∧ 10 * (cs.getD k 0 - 48) + cs.getD (k + 1) 0 - 48 ≤ 99 ∧ (costsF cs ((k : Int) + 2) 4 = some (rowAt cs (k + 2)).a2) := by
    rintro ⟨p1, p2, p3⟩
    unfold digB at p2 p3
    simp only [Bool.and_eq_true, decide_eq_true_eq] at p2 p3
    refine ⟨by omega, by omega, ?_⟩
    have := (costs_good cs hn hch (k + 2) (by omega)).2.2.2.2
    exact_mod_cast this
  have qpair : (k + 1 < cs.length ∧ digB (cs.getD k 0) = true ∧ digB (cs.getD (k + 1) 0) = true) → (rowAt cs (k + 2)).a2 = f → m.v ≤ 10 * (cs.getD k 0 - 48) + cs.getD (k + 1) 0 - 48 := fun h1 h2 =>
    hmin ⟨10 * (cs.getD k 0 - 48) + cs.getD (k + 1) 0 - 48, (k : Int) + 2, 4⟩ (by
      unfold movesL
      simp only [show ¬ ((4 : Int) = 0) by omega, show ¬ ((4 : Int) = 1) by omega, show ¬ ((4 : Int) = 2) by omega, show ¬ ((4 : Int) = 3) by omega, if_false, if_pos h1]
      rw [List.mem_append, List.mem_append]
      exact .inl (.inr (by simp))) (by
      show costsF cs ((k : Int) + 2) 4 = _
      rw [(dig h1).2.2]; congr 1; omega)
  have hcase : (m.v = 100 ∧ mn u1 u0 u1 u2 = f) ∨ (m.v = 101 ∧ mn u0 u0 u1 u2 = f) ∨ ((k + 1 < cs.length ∧ digB (cs.getD k 0) = true ∧ digB (cs.getD (k + 1) 0) = true) ∧ m.v = 10 * (cs.getD k 0 - 48) + cs.getD (k + 1) 0 - 48 ∧ (rowAt cs (k + 2)).a2 = f) ∨ (cs.getD k 0 = 256 ∧ m.v = 102 ∧ (rowAt cs (k + 1)).a2 = f) := by
    rcases mem_moves4 hm with rfl | rfl | ⟨hpp, rfl⟩ | ⟨ho, rfl⟩
    · left
      simp only at e1 hj
      obtain rfl : j = k := by omega
      rw [g3] at hj
      simp only [Option.some.injEq] at hj
      exact ⟨rfl, hj⟩
    · right; left
      simp only at e1 hj
      obtain rfl : j = k := by omega
      rw [g2] at hj
      simp only [Option.some.injEq] at hj
      exact ⟨rfl, hj⟩
    · right; right; left
      simp only at e1 hj
      obtain rfl : j = k + 2 := by omega
      have h2 := (dig hpp).2.2
      have h3 : costsF cs ((k : Int) + 2) 4 = some (f : Int) := by exact_mod_cast hj
      rw [h2] at h3
      simp only [Option.some.injEq] at h3
      exact ⟨hpp, rfl, h3⟩
    · right; right; right
      simp only at e1 hj
      obtain rfl : j = k + 1 := by omega
      rw [d4] at hj
      simp only [Option.some.injEq] at hj
      exact ⟨o4.1 ho, p4 ho, hj⟩
  unfold choiceF minT ch0
  simp only [show ¬ ((2 : Int) = 0) by omega, show ¬ ((2 : Int) = 1) by omega, if_true, if_false, true_and]
  generalize mn u0 u0 u1 u2 = A0 at *
  generalize mn u1 u0 u1 u2 = A1 at *
  generalize mn u2 u0 u1 u2 = A2 at *
  clear hu0 hu1 hu2 g2 g3 g4 d4 hmin o4 p4 hp hp' hm
  unfold bndR at b1
  by_cases c1 : cs.getD k 0 = 256
  · rw [if_pos c1] at hu
    simp only [if_pos c1]
    have q1 := qown c1
    clear qown qpair
    rcases hcase with ⟨h1, h2⟩ | ⟨h1, h2⟩ | ⟨h0, h1, h2⟩ | ⟨_, h1, h2⟩
    · (repeat' split) <;> omega
    · (repeat' split) <;> omega
    · exact absurd c1 (dig h0).1
    · (repeat' split) <;> omega
  · rw [if_neg c1] at hu
    simp only [if_neg c1]
    by_cases c2 : k + 1 < cs.length ∧ digB (cs.getD k 0) = true ∧ digB (cs.getD (k + 1) 0) = true
    · rw [if_pos c2] at hu
      have q1 := qpair c2
      have q2 := (dig c2).2.1
      clear qown qpair dig
      rcases hcase with ⟨h1, h2⟩ | ⟨h1, h2⟩ | ⟨h0, h1, h2⟩ | ⟨h0, h1, h2⟩
      · (repeat' split) <;> omega
      · (repeat' split) <;> omega
      · (repeat' split) <;> omega
      · exact absurd h0 c1
    · rw [if_neg c2] at hu
      clear qown qpair dig
      rcases hcase with ⟨h1, h2⟩ | ⟨h1, h2⟩ | ⟨h0, h1, h2⟩ | ⟨h0, h1, h2⟩
      · (repeat' split) <;> omega
      · (repeat' split) <;> omega
      · exact absurd h0 c2
      · exact absurd h0 c1

end Go.Proofs.Ytofedeokliljkaa
