/-
  The walk of costs of package code128. Condition: at most 5000 characters, each from 0 to 500.
-/
import Derived.Test.YtofedeokliljkaaWalkV
namespace Go.Proofs.Ytofedeokliljkaa
open Go.RowKit Go.Maps
set_option linter.unusedVariables false

abbrev Tab := Int → Int → Option Int

def encL (F : Tab) : List Value → Option Value
  | [.int .i64 x, .int .i64 y] => (F x y).map (Value.int .i64)
  | _ => none

/-- A table, as a function from keys. -/
def encF (F : Tab) : Value → Option Value
  | .agg cs => encL F cs.toList
  | _ => none

def setF (F : Tab) (x y r : Int) : Tab := fun a b => if a = x ∧ b = y then some r else F a b

theorem encF_set (F : Tab) (x y r : Int) : upd (encF F) (.agg #[.int .i64 x, .int .i64 y]) (.int .i64 r) = encF (setF F x y r) := by
  funext v
  unfold upd
  by_cases h : v = .agg #[.int .i64 x, .int .i64 y]
  · subst h; simp [encF, encL, setF]
  · rw [if_neg h]
    cases v with
    | agg cs =>
      obtain ⟨l⟩ := cs
      show encL F l = encL (setF F x y r) l
      unfold encL
      split
      · rename_i a b
        have : ¬ (a = x ∧ b = y) := by rintro ⟨rfl, rfl⟩; exact h rfl
        simp [setF, this]
      · rfl
    | _ => rfl

/-- One move tried. -/
def relax (at_ st : Int) (F : Tab) (m : Mv) : Tab :=
  match F m.at_ m.st with
  | none => F
  | some r => match F at_ st with
    | none => setF F at_ st (r + 1)
    | some b => if r + 1 < b then setF F at_ st (r + 1) else F

def stepM (cs : List Int) (k : Nat) (F : Tab) (st : Nat) : Tab := (movesL cs k st).foldl (relax k st) F
def stepS (cs : List Int) (k : Nat) (F : Tab) : Tab := (List.range' 0 5).foldl (stepM cs k) F
def stepR (cs : List Int) (k : Nat) : Nat → Tab → Tab
  | 0, F => F
  | r + 1, F => stepR cs k r (stepS cs k F)
/-- The places k - 1 down to 0. -/
def stepA (cs : List Int) : Nat → Tab → Tab
  | 0, F => F
  | k + 1, F => stepA cs k (stepR cs k 2 F)
def tab0 (n : Nat) : Tab := setF (setF (setF (fun _ _ => none) n 2 0) n 3 0) n 4 0
def costsF (cs : List Int) : Tab := stepA cs cs.length (tab0 cs.length)

def Bnd (F : Tab) (c : Int) : Prop := ∀ x y r, F x y = some r → 0 ≤ r ∧ r ≤ c

theorem Bnd.set {F : Tab} {c x y r : Int} (h : Bnd F c) (h0 : 0 ≤ r) (h1 : r ≤ c + 1) : Bnd (setF F x y r) (c + 1) := by
  intro a b q hq
  unfold setF at hq
  split at hq
  · cases hq; omega
  · have := h a b q hq; omega

theorem Bnd.mono {F : Tab} {c c' : Int} (h : Bnd F c) (hc : c ≤ c') : Bnd F c' := fun a b q hq => by have := h a b q hq; omega

theorem movesL_length (cs : List Int) (k : Nat) (st : Int) : (movesL cs k st).length ≤ 4 := by
  unfold movesL tailM
  simp only
  repeat' split
  all_goals simp

theorem movesL_mem (cs : List Int) (k : Nat) (st : Int) (h0 : 0 ≤ st) (h4 : st ≤ 4) : ∀ m ∈ movesL cs k st, (k : Int) ≤ m.at_ ∧ m.at_ ≤ k + 2 ∧ 0 ≤ m.st ∧ m.st ≤ 4 := by
  unfold movesL tailM
  simp only
  repeat' split
  all_goals simp
  all_goals omega

theorem zero3 (w : World) : (zeroValue 3).run Try.prog w = .ok (.int .i64 0) w := by kernel_rfl

theorem tab_look {w : World} {b : Nat} {F : Tab} (h : MapF Try.prog 57 w b (encF F)) (x y : Int) (hx : (Lit.int .i64 x).wf = true) (hy : (Lit.int .i64 y).wf = true) :
    (Instr.lookup 54 (.map (some b)) (.agg #[.int .i64 x, .int .i64 y]) true).run Try.prog w = .ok (.tuple #[.int .i64 ((F x y).getD 0), .bool (F x y).isSome]) w := by
  obtain ⟨l, hl⟩ := key57 x y hx hy
  have := h.look law57 Try.underlying54 (zero3 w) hl true
  rw [this]
  cases hF : F x y <;> simp [encF, encL, hF]

theorem tab_store {w : World} {b : Nat} {F : Tab} (h : MapF Try.prog 57 w b (encF F)) (x y r : Int) (hx : (Lit.int .i64 x).wf = true) (hy : (Lit.int .i64 y).wf = true) :
    ∃ w', (Instr.mapUpdate 54 (.map (some b)) (.agg #[.int .i64 x, .int .i64 y]) (.int .i64 r)).run Try.prog w = .ok () w' ∧ MapF Try.prog 57 w' b (encF (setF F x y r)) ∧ w.grownBy w' (some b) := by
  obtain ⟨l, hl⟩ := key57 x y hx hy
  obtain ⟨w', h1, h2, h3⟩ := h.store law57 Try.underlying54 hl (.int .i64 r)
  rw [encF_set] at h2
  exact ⟨w', h1, h2, h3⟩

end Go.Proofs.Ytofedeokliljkaa
