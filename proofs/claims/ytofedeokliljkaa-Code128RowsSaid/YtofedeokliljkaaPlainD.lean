/-
  Plain: what the two rounds of costs find at a place, by numbers.
-/
import Derived.Test.YtofedeokliljkaaPlainC
import Derived.Test.YtofedeokliljkaaWalkY
namespace Go.Proofs.Ytofedeokliljkaa
set_option linter.unusedVariables false

/-- What is tried from a state, over a table. -/
def tryM (cs : List Int) (k : Nat) (st : Int) (F : Tab) (o : Option Int) : Option Int := (movesL cs k st).foldl (fun o m => omin o ((F m.at_ m.st).map (· + 1))) o

theorem stepM_at (cs : List Int) (k : Nat) (F : Tab) (st : Nat) (hs : st < 5) : stepM cs k F st = fun (a b : Int) => if a = k ∧ b = st then tryM cs k st F (F k st) else F a b := by
  funext a b
  split
  · next h => obtain ⟨rfl, rfl⟩ := h; exact stepM_self cs k F st (moves_away cs k st hs)
  · next h => exact stepM_other cs k F st a b h

def inc (o : Option Int) : Option Int := o.map (· + 1)

/-- The own move's part. -/
def ownP (c st : Int) (a : Option Int) : Option Int := if (ownV c st).2 = true then inc a else none
def pairP (cs : List Int) (k : Nat) (a : Option Int) : Option Int := if k + 1 < cs.length ∧ digB (cs.getD k 0) = true ∧ digB (cs.getD (k + 1) 0) = true then inc a else none

theorem omin_none (o : Option Int) : omin o none = o := by cases o <;> rfl
theorem none_omin (o : Option Int) : omin none o = o := by cases o <;> rfl

theorem try0 (cs : List Int) (k : Nat) (F : Tab) (o : Option Int) : tryM cs k 0 F o = omin o (if (valF (cs.getD k 0) 2).2 = true then inc (F (k + 1) 3) else none) := by
  unfold tryM movesL
  simp only [if_true]
  split <;> simp [inc, omin_none]

theorem try1 (cs : List Int) (k : Nat) (F : Tab) (o : Option Int) : tryM cs k 1 F o = omin o (if (valF (cs.getD k 0) 3).2 = true then inc (F (k + 1) 2) else none) := by
  unfold tryM movesL
  simp only [show ¬ ((1 : Int) = 0) by omega, if_false, if_true]
  split <;> simp [inc, omin_none]

theorem try2 (cs : List Int) (k : Nat) (F : Tab) (o : Option Int) : tryM cs k 2 F o = omin (omin (omin (omin o (inc (F k 1))) (inc (F k 4))) (inc (F k 3))) (ownP (cs.getD k 0) 2 (F (k + 1) 2)) := by
  unfold tryM movesL tailM ownP
  simp only [show ¬ ((2 : Int) = 0) by omega, show ¬ ((2 : Int) = 1) by omega, if_false, if_true, List.foldl_append, List.foldl_cons, List.foldl_nil]
  split <;> simp [inc, omin_none]

theorem try3 (cs : List Int) (k : Nat) (F : Tab) (o : Option Int) : tryM cs k 3 F o = omin (omin (omin (omin o (inc (F k 0))) (inc (F k 4))) (inc (F k 2))) (ownP (cs.getD k 0) 3 (F (k + 1) 3)) := by
  unfold tryM movesL tailM ownP
  simp only [show ¬ ((3 : Int) = 0) by omega, show ¬ ((3 : Int) = 1) by omega, show ¬ ((3 : Int) = 2) by omega, if_false, if_true, List.foldl_append, List.foldl_cons, List.foldl_nil]
  split <;> simp [inc, omin_none]

theorem try4 (cs : List Int) (k : Nat) (F : Tab) (o : Option Int) : tryM cs k 4 F o = omin (omin (omin (omin o (inc (F k 3))) (inc (F k 2))) (pairP cs k (F (k + 2) 4))) (ownP (cs.getD k 0) 4 (F (k + 1) 4)) := by
  unfold tryM movesL tailM ownP pairP
  simp only [show ¬ ((4 : Int) = 0) by omega, show ¬ ((4 : Int) = 1) by omega, show ¬ ((4 : Int) = 2) by omega, show ¬ ((4 : Int) = 3) by omega, if_false, List.foldl_append, List.foldl_cons, List.foldl_nil]
  split <;> split <;> simp [inc, omin_none]

/-- A table with one place's five entries set. -/
def putC (F : Tab) (k : Nat) (x0 x1 x2 x3 x4 : Option Int) : Tab := fun a b => if a = k then (if b = 0 then x0 else if b = 1 then x1 else if b = 2 then x2 else if b = 3 then x3 else if b = 4 then x4 else F a b) else F a b

theorem putC_self (F : Tab) (k : Nat) : putC F k (F k 0) (F k 1) (F k 2) (F k 3) (F k 4) = F := by
  funext a b
  unfold putC
  repeat' split
  all_goals first | rfl | (subst_vars; rfl)

section
variable (cs : List Int) (F : Tab) (k : Nat) (x0 x1 x2 x3 x4 : Option Int)

theorem putC_at (b : Int) : putC F k x0 x1 x2 x3 x4 k b = if b = 0 then x0 else if b = 1 then x1 else if b = 2 then x2 else if b = 3 then x3 else if b = 4 then x4 else F k b := by simp [putC]
theorem putC_1 (b : Int) : putC F k x0 x1 x2 x3 x4 ((k : Int) + 1) b = F ((k : Int) + 1) b := by unfold putC; rw [if_neg (by omega)]
theorem putC_2 (b : Int) : putC F k x0 x1 x2 x3 x4 ((k : Int) + 2) b = F ((k : Int) + 2) b := by unfold putC; rw [if_neg (by omega)]

theorem step0 : stepM cs k (putC F k x0 x1 x2 x3 x4) 0 = putC F k (omin x0 (if (valF (cs.getD k 0) 2).2 = true then inc (F (k + 1) 3) else none)) x1 x2 x3 x4 := by
  rw [stepM_at _ _ _ _ (by omega)]
  funext a b
  simp only [show ((0 : Nat) : Int) = 0 from rfl, try0, putC_1, putC_at]
  unfold putC
  by_cases ha : a = k <;> by_cases hb : b = 0 <;> simp [ha, hb]

theorem step1 : stepM cs k (putC F k x0 x1 x2 x3 x4) 1 = putC F k x0 (omin x1 (if (valF (cs.getD k 0) 3).2 = true then inc (F (k + 1) 2) else none)) x2 x3 x4 := by
  rw [stepM_at _ _ _ _ (by omega)]
  funext a b
  simp only [show ((1 : Nat) : Int) = 1 from rfl, try1, putC_1, putC_at]
  unfold putC
  by_cases ha : a = k <;> by_cases hb : b = 1 <;> simp [ha, hb]

theorem step2 : stepM cs k (putC F k x0 x1 x2 x3 x4) 2 = putC F k x0 x1 (omin (omin (omin (omin x2 (inc x1)) (inc x4)) (inc x3)) (ownP (cs.getD k 0) 2 (F (k + 1) 2))) x3 x4 := by
  rw [stepM_at _ _ _ _ (by omega)]
  funext a b
  simp only [show ((2 : Nat) : Int) = 2 from rfl, try2, putC_1, putC_at]
  unfold putC
  by_cases ha : a = k <;> by_cases hb : b = 2 <;> simp [ha, hb]

theorem step3 : stepM cs k (putC F k x0 x1 x2 x3 x4) 3 = putC F k x0 x1 x2 (omin (omin (omin (omin x3 (inc x0)) (inc x4)) (inc x2)) (ownP (cs.getD k 0) 3 (F (k + 1) 3))) x4 := by
  rw [stepM_at _ _ _ _ (by omega)]
  funext a b
  simp only [show ((3 : Nat) : Int) = 3 from rfl, try3, putC_1, putC_at]
  unfold putC
  by_cases ha : a = k <;> by_cases hb : b = 3 <;> simp [ha, hb]

theorem step4 : stepM cs k (putC F k x0 x1 x2 x3 x4) 4 = putC F k x0 x1 x2 x3 (omin (omin (omin (omin x4 (inc x3)) (inc x2)) (pairP cs k (F (k + 2) 4))) (ownP (cs.getD k 0) 4 (F (k + 1) 4))) := by
  rw [stepM_at _ _ _ _ (by omega)]
  funext a b
  simp only [show ((4 : Nat) : Int) = 4 from rfl, try4, putC_1, putC_2, putC_at]
  unfold putC
  by_cases ha : a = k <;> by_cases hb : b = 4 <;> simp [ha, hb]
end

/-- A character. -/
def isCh (c : Int) : Prop := (0 ≤ c ∧ c ≤ 127) ∨ (256 ≤ c ∧ c ≤ 259)

def mn (u a b c : Int) : Int := min (min (min u (1 + a)) (1 + b)) (1 + c)

def kindB (c : Int) : Bool :=
  (!(valF c 2).2 && !(valF c 3).2 && (ownV c 2).2 && (ownV c 3).2 && (ownV c 4).2 && decide (0 ≤ dataF c 0) && decide (0 ≤ dataF c 1) && decide (c = 256) && !digB c) ||
  (!(valF c 2).2 && !(valF c 3).2 && (ownV c 2).2 && (ownV c 3).2 && !(ownV c 4).2 && decide (0 ≤ dataF c 0) && decide (0 ≤ dataF c 1) && !decide (c = 256) && !digB c) ||
  ((valF c 2).2 && !(valF c 3).2 && (ownV c 2).2 && !(ownV c 3).2 && !(ownV c 4).2 && decide (0 ≤ dataF c 0) && !decide (0 ≤ dataF c 1) && !decide (c = 256) && !digB c) ||
  ((valF c 2).2 && (valF c 3).2 && (ownV c 2).2 && (ownV c 3).2 && !(ownV c 4).2 && decide (0 ≤ dataF c 0) && decide (0 ≤ dataF c 1) && !decide (c = 256)) ||
  (!(valF c 2).2 && (valF c 3).2 && !(ownV c 2).2 && (ownV c 3).2 && !(ownV c 4).2 && !decide (0 ≤ dataF c 0) && decide (0 ≤ dataF c 1) && !decide (c = 256) && !digB c)
theorem kinds_all : ∀ x : Nat, x < 260 → (decide (x ≤ 127) || decide (256 ≤ x)) = true → kindB x = true := by decide +kernel

/-- The five kinds of characters, with what each function says of them. -/
theorem kinds {c : Int} (h : isCh c) :
    ((valF c 2).2 = false ∧ (valF c 3).2 = false ∧ (ownV c 2).2 = true ∧ (ownV c 3).2 = true ∧ (ownV c 4).2 = true ∧ 0 ≤ dataF c 0 ∧ 0 ≤ dataF c 1 ∧ c = 256 ∧ digB c = false) ∨
    ((valF c 2).2 = false ∧ (valF c 3).2 = false ∧ (ownV c 2).2 = true ∧ (ownV c 3).2 = true ∧ (ownV c 4).2 = false ∧ 0 ≤ dataF c 0 ∧ 0 ≤ dataF c 1 ∧ c ≠ 256 ∧ digB c = false) ∨
    ((valF c 2).2 = true ∧ (valF c 3).2 = false ∧ (ownV c 2).2 = true ∧ (ownV c 3).2 = false ∧ (ownV c 4).2 = false ∧ 0 ≤ dataF c 0 ∧ ¬ 0 ≤ dataF c 1 ∧ c ≠ 256 ∧ digB c = false) ∨
    ((valF c 2).2 = true ∧ (valF c 3).2 = true ∧ (ownV c 2).2 = true ∧ (ownV c 3).2 = true ∧ (ownV c 4).2 = false ∧ 0 ≤ dataF c 0 ∧ 0 ≤ dataF c 1 ∧ c ≠ 256) ∨
    ((valF c 2).2 = false ∧ (valF c 3).2 = true ∧ (ownV c 2).2 = false ∧ (ownV c 3).2 = true ∧ (ownV c 4).2 = false ∧ ¬ 0 ≤ dataF c 0 ∧ 0 ≤ dataF c 1 ∧ c ≠ 256 ∧ digB c = false) := by
  obtain ⟨x, rfl⟩ : ∃ x : Nat, c = x := ⟨c.toNat, by unfold isCh at h; omega⟩
  have hk := kinds_all x (by unfold isCh at h; omega) (by unfold isCh at h; simp; omega)
  unfold kindB at hk
  simpa only [Bool.or_eq_true, Bool.and_eq_true, Bool.not_eq_true', decide_eq_true_eq, decide_eq_false_iff_not, and_assoc, or_assoc] using hk

theorem eq_le {a b : Int} (h : ∀ z, z ≤ a ↔ z ≤ b) : a = b := Int.le_antisymm ((h a).1 (Int.le_refl _)) ((h b).2 (Int.le_refl _))
theorem le_s (z x : Int) : z ≤ x + 1 ↔ z - 1 ≤ x := by omega
theorem le_t (z x : Int) : z ≤ 1 + x ↔ z - 1 ≤ x := by omega

/-- The two rounds at a place. -/
theorem column (cs : List Int) (F : Tab) (k : Nat) (n3 n4 n5 m5 u0 u1 u2 : Int) (hch : isCh (cs.getD k 0)) (e0 : F k 0 = none) (e1 : F k 1 = none) (e2 : F k 2 = none) (e3 : F k 3 = none) (e4 : F k 4 = none)
    (h2 : F (k + 1) 2 = some n3) (h3 : F (k + 1) 3 = some n4) (h4 : F (k + 1) 4 = some n5) (hp : k + 1 < cs.length → F (k + 2) 4 = some m5) (hb : n3 < 1000000) (hb4 : n4 < 1000000)
    (hu0 : u0 = usedF cs k 0 n3 n4 n5 m5) (hu1 : u1 = usedF cs k 1 n3 n4 n5 m5) (hu2 : u2 = usedF cs k 2 n3 n4 n5 m5) :
    stepR cs k 2 F = putC F k (if (valF (cs.getD k 0) 2).2 = true then some (n4 + 1) else none) (if (valF (cs.getD k 0) 3).2 = true then some (n3 + 1) else none)
      (some (mn u0 u0 u1 u2)) (some (mn u1 u0 u1 u2)) (some (mn u2 u0 u1 u2)) := by
  have hF := putC_self F k
  rw [e0, e1, e2, e3, e4] at hF
  show stepS cs k (stepS cs k F) = _
  conv => lhs; rw [← hF]
  unfold stepS
  simp only [show List.range' 0 5 = [0, 1, 2, 3, 4] from rfl, List.foldl_cons, List.foldl_nil, step0, step1, step2, step3, step4, h2, h3, h4]
  clear hF e0 e1 e2 e3 e4
  unfold ownP pairP
  unfold usedF at hu0 hu1 hu2
  simp only at hu0 hu1 hu2
  generalize cs.getD k 0 = c at *
  generalize cs.getD (k + 1) 0 = c' at *
  have hP : ((k + 1 < cs.length ∧ digB c = true ∧ digB c' = true) ∧ F (k + 2) 4 = some m5 ∧ digB c = true) ∨ ¬ (k + 1 < cs.length ∧ digB c = true ∧ digB c' = true) := by
    by_cases h : (k + 1 < cs.length ∧ digB c = true ∧ digB c' = true)
    · exact .inl ⟨h, hp h.1, h.2.1⟩
    · exact .inr h
  clear hp
  rcases hP with ⟨hP, hp, hdg⟩ | hP
  · simp only [if_pos hP, hp] at hu0 hu1 hu2 ⊢
    rcases kinds hch with ⟨a1, a2, a3, a4, a5, a6, a7, a8, a9⟩ | ⟨a1, a2, a3, a4, a5, a6, a7, a8, a9⟩ | ⟨a1, a2, a3, a4, a5, a6, a7, a8, a9⟩ | ⟨a1, a2, a3, a4, a5, a6, a7, a8⟩ | ⟨a1, a2, a3, a4, a5, a6, a7, a8, a9⟩
    · simp [hdg] at a9
    · simp [hdg] at a9
    · simp [hdg] at a9
    · simp [a6, a7, a8] at hu0 hu1 hu2
      subst hu0 hu1 hu2
      simp only [a1, a2, a3, a4, a5, if_true, if_false, inc, Option.map_some, Option.map_none, omin, Bool.false_eq_true]
      unfold mn
      congr 2 <;> (refine eq_le fun z => ?_; simp only [Int.le_min, le_s, le_t]; refine ⟨fun h => ?_, fun h => ?_⟩ <;> and_intros <;> omega)
    · simp [hdg] at a9
  · simp only [if_neg hP] at hu0 hu1 hu2 ⊢
    rcases kinds hch with ⟨a1, a2, a3, a4, a5, a6, a7, a8, a9⟩ | ⟨a1, a2, a3, a4, a5, a6, a7, a8, a9⟩ | ⟨a1, a2, a3, a4, a5, a6, a7, a8, a9⟩ | ⟨a1, a2, a3, a4, a5, a6, a7, a8⟩ | ⟨a1, a2, a3, a4, a5, a6, a7, a8, a9⟩
    all_goals
      first | (subst a8; simp [a6, a7] at hu0 hu1 hu2) | (simp [a6, a7, a8] at hu0 hu1 hu2)
      subst hu0 hu1 hu2
      simp only [a1, a2, a3, a4, a5, if_true, if_false, inc, Option.map_some, Option.map_none, omin, Bool.false_eq_true]
      unfold mn
      congr 2 <;> (refine eq_le fun z => ?_; simp only [Int.le_min, le_s, le_t]; refine ⟨fun h => ?_, fun h => ?_⟩ <;> and_intros <;> omega)

/-- A row of the reference's table: by a character in each code set, and in any way. -/
structure R6 where
  u0 : Int
  u1 : Int
  u2 : Int
  a0 : Int
  a1 : Int
  a2 : Int

def R6.zero : R6 := ⟨0, 0, 0, 0, 0, 0⟩

def mkRow (u0 u1 u2 : Int) : R6 := ⟨u0, u1, u2, mn u0 u0 u1 u2, mn u1 u0 u1 u2, mn u2 u0 u1 u2⟩
def rowF (cs : List Int) (k : Nat) (nx af : R6) : R6 := mkRow (usedF cs k 0 nx.a0 nx.a1 nx.a2 af.a2) (usedF cs k 1 nx.a0 nx.a1 nx.a2 af.a2) (usedF cs k 2 nx.a0 nx.a1 nx.a2 af.a2)

def rowsD (cs : List Int) : Nat → R6 × R6
  | 0 => (R6.zero, R6.zero)
  | d + 1 => (rowF cs (cs.length - (d + 1)) (rowsD cs d).1 (rowsD cs d).2, (rowsD cs d).1)

/-- The row at a place. -/
def rowAt (cs : List Int) (k : Nat) : R6 := (rowsD cs (cs.length - k)).1

theorem rowAt_end (cs : List Int) (k : Nat) (h : cs.length ≤ k) : rowAt cs k = R6.zero := by
  unfold rowAt; rw [show cs.length - k = 0 by omega]; rfl

theorem rowsD_snd (cs : List Int) (d : Nat) : (rowsD cs d).2 = (rowsD cs (d - 1)).1 := by cases d <;> rfl

theorem rowAt_step (cs : List Int) (k : Nat) (h : k < cs.length) : rowAt cs k = rowF cs k (rowAt cs (k + 1)) (rowAt cs (k + 2)) := by
  unfold rowAt
  rw [show cs.length - k = (cs.length - (k + 1)) + 1 by omega, rowsD, rowsD_snd, show cs.length - (cs.length - (k + 1) + 1) = k by omega]
  rfl

def bndR (r : R6) (b : Int) : Prop := 0 ≤ r.a0 ∧ r.a0 ≤ b ∧ 0 ≤ r.a1 ∧ r.a1 ≤ b ∧ 0 ≤ r.a2 ∧ r.a2 ≤ b

theorem mn_le {u a b c : Int} : mn u a b c ≤ u ∧ mn u a b c ≤ 1 + a ∧ mn u a b c ≤ 1 + b ∧ mn u a b c ≤ 1 + c := by unfold mn; omega
theorem mn_ge {z u a b c : Int} (h : z ≤ u) (h1 : z ≤ 1 + a) (h2 : z ≤ 1 + b) (h3 : z ≤ 1 + c) : z ≤ mn u a b c := by unfold mn; omega

theorem used_bnd (cs : List Int) (k : Nat) (nx af : R6) (b b' : Int) (h : bndR nx b) (h' : bndR af b') :
    (1 ≤ usedF cs k 0 nx.a0 nx.a1 nx.a2 af.a2 ∧ usedF cs k 0 nx.a0 nx.a1 nx.a2 af.a2 ≤ b + 2) ∧ (1 ≤ usedF cs k 1 nx.a0 nx.a1 nx.a2 af.a2 ∧ usedF cs k 1 nx.a0 nx.a1 nx.a2 af.a2 ≤ b + 2) ∧ (1 ≤ usedF cs k 2 nx.a0 nx.a1 nx.a2 af.a2) := by
  obtain ⟨h1, h2, h3, h4, h5, h6⟩ := h
  obtain ⟨k1, k2, k3, k4, k5, k6⟩ := h'
  refine ⟨?_, ?_, ?_⟩
  · unfold usedF; simp only [show ¬ ((0 : Int) = 2) by omega, if_false, if_true]; split <;> omega
  · unfold usedF; simp only [show ¬ ((1 : Int) = 2) by omega, show ¬ ((1 : Int) = 0) by omega, if_false]; split <;> omega
  · unfold usedF; simp only [if_true]; split
    · omega
    · split <;> omega

theorem rowF_bnd (cs : List Int) (k : Nat) (nx af : R6) (b b' : Int) (h : bndR nx b) (h' : bndR af b') : bndR (rowF cs k nx af) (b + 3) := by
  obtain ⟨⟨h1, h2⟩, ⟨h3, h4⟩, h5⟩ := used_bnd cs k nx af b b' h h'
  unfold rowF mkRow bndR
  simp only
  generalize usedF cs k 0 nx.a0 nx.a1 nx.a2 af.a2 = u0 at *
  generalize usedF cs k 1 nx.a0 nx.a1 nx.a2 af.a2 = u1 at *
  generalize usedF cs k 2 nx.a0 nx.a1 nx.a2 af.a2 = u2 at *
  have q0 := @mn_le u0 u0 u1 u2
  have q1 := @mn_le u1 u0 u1 u2
  have q2 := @mn_le u2 u0 u1 u2
  have g0 := @mn_ge 0 u0 u0 u1 u2 (by omega) (by omega) (by omega) (by omega)
  have g1 := @mn_ge 0 u1 u0 u1 u2 (by omega) (by omega) (by omega) (by omega)
  have g2 := @mn_ge 0 u2 u0 u1 u2 (by omega) (by omega) (by omega) (by omega)
  omega

theorem rowsD_bnd (cs : List Int) : ∀ d : Nat, bndR (rowsD cs d).1 (3 * d) ∧ bndR (rowsD cs d).2 (3 * d)
  | 0 => by simp [rowsD, bndR, R6.zero]
  | d + 1 => by
    have ih := rowsD_bnd cs d
    refine ⟨?_, ?_⟩
    · have := rowF_bnd cs (cs.length - (d + 1)) _ _ _ _ ih.1 ih.2
      unfold bndR at this ⊢
      simp only [rowsD]; omega
    · have := ih.1
      unfold bndR at this ⊢
      simp only [rowsD]; omega

theorem rowAt_bnd (cs : List Int) (k : Nat) : bndR (rowAt cs k) (3 * (cs.length - k : Nat)) := (rowsD_bnd cs _).1

/-- The entries of a table at a place. -/
def ColS (cs : List Int) (F : Tab) (j : Nat) : Prop :=
  F j 0 = (if j < cs.length ∧ (valF (cs.getD j 0) 2).2 = true then some ((rowAt cs (j + 1)).a1 + 1) else none) ∧ F j 1 = (if j < cs.length ∧ (valF (cs.getD j 0) 3).2 = true then some ((rowAt cs (j + 1)).a0 + 1) else none) ∧
  F j 2 = some (rowAt cs j).a0 ∧ F j 3 = some (rowAt cs j).a1 ∧ F j 4 = some (rowAt cs j).a2

def Good (cs : List Int) (k : Nat) (F : Tab) : Prop := (∀ j, k ≤ j → j ≤ cs.length → ColS cs F j) ∧ ∀ j : Nat, j < k → ∀ b, F j b = none

theorem good_tab0 (cs : List Int) : Good cs cs.length (tab0 cs.length) := by
  refine ⟨fun j h1 h2 => ?_, fun j h b => ?_⟩
  · obtain rfl : j = cs.length := by omega
    unfold ColS
    rw [rowAt_end cs _ (Nat.le_refl _)]
    simp [tab0, setF, R6.zero]
  · unfold tab0 setF
    rw [if_neg (by omega), if_neg (by omega), if_neg (by omega)]

theorem good_step (cs : List Int) (k : Nat) (F : Tab) (hk : k < cs.length) (hn : cs.length ≤ 5000) (hch : ∀ c ∈ cs, isCh c) (h : Good cs (k + 1) F) : Good cs k (stepR cs k 2 F) := by
  have hc : isCh (cs.getD k 0) := hch _ (by simp [hk])
  have g1 := h.1 (k + 1) (Nat.le_refl _) hk
  have hb := rowAt_bnd cs (k + 1)
  unfold bndR at hb
  have hcol := column cs F k (rowAt cs (k + 1)).a0 (rowAt cs (k + 1)).a1 (rowAt cs (k + 1)).a2 (rowAt cs (k + 2)).a2 _ _ _ hc (h.2 k (by omega) 0) (h.2 k (by omega) 1) (h.2 k (by omega) 2) (h.2 k (by omega) 3) (h.2 k (by omega) 4)
    (by have := g1.2.2.1; exact_mod_cast this) (by have := g1.2.2.2.1; exact_mod_cast this) (by have := g1.2.2.2.2; exact_mod_cast this)
    (fun hlt => by have := (h.1 (k + 2) (by omega) (by omega)).2.2.2.2; exact_mod_cast this) (by omega) (by omega) rfl rfl rfl
  rw [hcol]
  refine ⟨fun j h1 h2 => ?_, fun j hj b => ?_⟩
  · by_cases e : j = k
    · subst e
      unfold ColS
      rw [rowAt_step cs j hk]
      simp only [putC_at]
      refine ⟨?_, ?_, ?_, ?_, ?_⟩
      · simp [hk]
      · simp [hk]
      · simp [rowF, mkRow]
      · simp [rowF, mkRow]
      · simp [rowF, mkRow]
    · have := h.1 j (by omega) h2
      unfold ColS at this ⊢
      have hp : ∀ x0 x1 x2 x3 x4 b, putC F k x0 x1 x2 x3 x4 j b = F j b := fun _ _ _ _ _ _ => by unfold putC; rw [if_neg (by omega)]
      simp only [hp]; exact this
  · unfold putC; rw [if_neg (by omega)]; exact h.2 j (by omega) b

theorem good_all (cs : List Int) (hn : cs.length ≤ 5000) (hch : ∀ c ∈ cs, isCh c) : ∀ (k : Nat) (F : Tab), k ≤ cs.length → Good cs k F → Good cs 0 (stepA cs k F)
  | 0, _, _, h => h
  | k + 1, F, hk, h => good_all cs hn hch k _ (by omega) (good_step cs k F hk hn hch h)

theorem costs_good (cs : List Int) (hn : cs.length ≤ 5000) (hch : ∀ c ∈ cs, isCh c) (j : Nat) (hj : j ≤ cs.length) : ColS cs (costsF cs) j :=
  (good_all cs hn hch cs.length _ (Nat.le_refl _) (good_tab0 cs)).1 j (by omega) hj

/-- Each entry is one more than the least entry that a move leads to. -/
theorem bellman (cs : List Int) (hn : cs.length ≤ 5000) (hch : ∀ c ∈ cs, isCh c) (k : Nat) (hk : k < cs.length) (st : Int) (h0 : 0 ≤ st) (h4 : st ≤ 4) : costsF cs k st = tryM cs k st (costsF cs) none := by
  have g := costs_good cs hn hch k (by omega)
  have g1 := costs_good cs hn hch (k + 1) (by omega)
  have hc : isCh (cs.getD k 0) := hch _ (by simp [hk])
  have g2 : k + 1 < cs.length → costsF cs (k + 2) 4 = some (rowAt cs (k + 2)).a2 := fun h => by have := (costs_good cs hn hch (k + 2) (by omega)).2.2.2.2; exact_mod_cast this
  have hb := rowAt_bnd cs (k + 1)
  unfold bndR at hb
  unfold ColS at g g1
  rw [rowAt_step cs k hk] at g
  obtain ⟨p0, p1, p2, p3, p4⟩ := g
  obtain ⟨_, _, q2, q3, q4⟩ := g1
  have q2' : costsF cs (k + 1) 2 = some (rowAt cs (k + 1)).a0 := by exact_mod_cast q2
  have q3' : costsF cs (k + 1) 3 = some (rowAt cs (k + 1)).a1 := by exact_mod_cast q3
  have q4' : costsF cs (k + 1) 4 = some (rowAt cs (k + 1)).a2 := by exact_mod_cast q4
  clear q2 q3 q4
  generalize hF : costsF cs = F at *
  unfold rowF mkRow at p2 p3 p4
  simp only at p2 p3 p4
  obtain ⟨u0, hu0⟩ : ∃ u, u = usedF cs k 0 (rowAt cs (k + 1)).a0 (rowAt cs (k + 1)).a1 (rowAt cs (k + 1)).a2 (rowAt cs (k + 2)).a2 := ⟨_, rfl⟩
  obtain ⟨u1, hu1⟩ : ∃ u, u = usedF cs k 1 (rowAt cs (k + 1)).a0 (rowAt cs (k + 1)).a1 (rowAt cs (k + 1)).a2 (rowAt cs (k + 2)).a2 := ⟨_, rfl⟩
  obtain ⟨u2, hu2⟩ : ∃ u, u = usedF cs k 2 (rowAt cs (k + 1)).a0 (rowAt cs (k + 1)).a1 (rowAt cs (k + 1)).a2 (rowAt cs (k + 2)).a2 := ⟨_, rfl⟩
  rw [← hu0, ← hu1, ← hu2] at p2 p3 p4
  generalize rowAt cs (k + 1) = r1 at *
  generalize rowAt cs (k + 2) = r2 at *
  obtain ⟨_, _, _, n3, n4, n5⟩ := r1
  obtain ⟨_, _, _, _, _, m5⟩ := r2
  simp only at *
  unfold usedF at hu0 hu1 hu2
  simp only at hu0 hu1 hu2
  simp only [hk, true_and] at p0 p1
  have hst : st = 0 ∨ st = 1 ∨ st = 2 ∨ st = 3 ∨ st = 4 := by omega
  have hP : ((k + 1 < cs.length ∧ digB (cs.getD k 0) = true ∧ digB (cs.getD (k + 1) 0) = true) ∧ F (k + 2) 4 = some m5 ∧ digB (cs.getD k 0) = true) ∨ ¬ (k + 1 < cs.length ∧ digB (cs.getD k 0) = true ∧ digB (cs.getD (k + 1) 0) = true) := by
    by_cases h : (k + 1 < cs.length ∧ digB (cs.getD k 0) = true ∧ digB (cs.getD (k + 1) 0) = true)
    · exact .inl ⟨h, g2 h.1, h.2.1⟩
    · exact .inr h
  have kk := kinds hc
  rcases hst with rfl | rfl | rfl | rfl | rfl
  · rw [try0, p0, q3']; simp only [none_omin]; rfl
  · rw [try1, p1, q2']; simp only [none_omin]; rfl
  all_goals
    first | rw [try2] | rw [try3] | rw [try4]
    unfold ownP
    try unfold pairP
    simp only [p0, p1, p2, p3, p4, q2', q3', q4', none_omin]
    clear p0 p1 p2 p3 p4 q2' q3' q4' hF hch hc g2
    generalize cs.getD k 0 = c at *
    generalize cs.getD (k + 1) 0 = c' at *
    rcases hP with ⟨hP, hp, hdg⟩ | hP
    · simp only [if_pos hP, hp] at hu0 hu1 hu2 ⊢
      rcases kk with ⟨a1, a2, a3, a4, a5, a6, a7, a8, a9⟩ | ⟨a1, a2, a3, a4, a5, a6, a7, a8, a9⟩ | ⟨a1, a2, a3, a4, a5, a6, a7, a8, a9⟩ | ⟨a1, a2, a3, a4, a5, a6, a7, a8⟩ | ⟨a1, a2, a3, a4, a5, a6, a7, a8, a9⟩
      · simp [hdg] at a9
      · simp [hdg] at a9
      · simp [hdg] at a9
      · simp [a6, a7, a8] at hu0 hu1 hu2
        subst hu0 hu1 hu2
        simp only [a1, a2, a3, a4, a5, if_true, if_false, inc, Option.map_some, omin, Bool.false_eq_true]
        unfold mn
        congr 1; (refine eq_le fun z => ?_; simp only [Int.le_min, le_s, le_t]; refine ⟨fun h => ?_, fun h => ?_⟩ <;> and_intros <;> omega)
      · simp [hdg] at a9
    · simp only [if_neg hP] at hu0 hu1 hu2 ⊢
      rcases kk with ⟨a1, a2, a3, a4, a5, a6, a7, a8, a9⟩ | ⟨a1, a2, a3, a4, a5, a6, a7, a8, a9⟩ | ⟨a1, a2, a3, a4, a5, a6, a7, a8, a9⟩ | ⟨a1, a2, a3, a4, a5, a6, a7, a8⟩ | ⟨a1, a2, a3, a4, a5, a6, a7, a8, a9⟩
      all_goals
        first | (subst a8; simp [a6, a7] at hu0 hu1 hu2) | (simp [a6, a7, a8] at hu0 hu1 hu2)
        subst hu0 hu1 hu2
        simp only [a1, a2, a3, a4, a5, if_true, if_false, inc, Option.map_some, Option.map_none, omin, Bool.false_eq_true]
        unfold mn
        congr 1; (refine eq_le fun z => ?_; simp only [Int.le_min, le_s, le_t]; refine ⟨fun h => ?_, fun h => ?_⟩ <;> and_intros <;> omega)

end Go.Proofs.Ytofedeokliljkaa
