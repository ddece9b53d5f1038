/-
  Plain: what the two rounds of costs find at a place.
-/
import Derived.Test.YtofedeokliljkaaWalkW
namespace Go.Proofs.Ytofedeokliljkaa

def omin : Option Int → Option Int → Option Int
  | none, y => y
  | x, none => x
  | some a, some b => some (min a b)

theorem relax_self (x y : Int) (F : Tab) (m : Mv) : relax x y F m x y = omin (F x y) ((F m.at_ m.st).map (· + 1)) := by
  unfold relax
  cases h : F m.at_ m.st with
  | none => simp only [Option.map_none]; cases F x y <;> rfl
  | some r =>
    cases hb : F x y with
    | none => simp [setF, omin]
    | some b =>
      simp only [Option.map_some, omin]
      split
      · simp only [setF, and_self, if_true]; congr 1; omega
      · rw [hb]; congr 1; omega

theorem relax_other (x y : Int) (F : Tab) (m : Mv) (a b : Int) (h : ¬ (a = x ∧ b = y)) : relax x y F m a b = F a b := by
  unfold relax
  cases F m.at_ m.st with
  | none => rfl
  | some r =>
    cases F x y with
    | none => simp only [setF, if_neg h]
    | some b =>
      simp only
      split
      · simp only [setF, if_neg h]
      · rfl

theorem fold_other (x y a b : Int) (h : ¬ (a = x ∧ b = y)) : ∀ (ms : List Mv) (F : Tab), ms.foldl (relax x y) F a b = F a b
  | [], _ => rfl
  | m :: ms, F => by rw [List.foldl_cons, fold_other x y a b h ms, relax_other x y F m a b h]

theorem fold_self (x y : Int) : ∀ (ms : List Mv) (F : Tab), (∀ m ∈ ms, ¬ (m.at_ = x ∧ m.st = y)) →
    ms.foldl (relax x y) F x y = ms.foldl (fun o m => omin o ((F m.at_ m.st).map (· + 1))) (F x y)
  | [], _, _ => rfl
  | m :: ms, F, h => by
    rw [List.foldl_cons, List.foldl_cons, fold_self x y ms _ (fun q hq => h q (List.mem_cons_of_mem _ hq)), relax_self]
    have : ∀ (l : List Mv) (o : Option Int), (∀ q ∈ l, ¬ (q.at_ = x ∧ q.st = y)) → l.foldl (fun o q => omin o ((relax x y F m q.at_ q.st).map (· + 1))) o = l.foldl (fun o q => omin o ((F q.at_ q.st).map (· + 1))) o := by
      intro l
      induction l with
      | nil => intros; rfl
      | cons q l ih =>
        intro o hl
        rw [List.foldl_cons, List.foldl_cons, relax_other x y F m _ _ (hl q (by simp)), ih _ (fun q' hq => hl q' (List.mem_cons_of_mem _ hq))]
    exact this ms _ (fun q hq => h q (List.mem_cons_of_mem _ hq))

theorem stepM_other (cs : List Int) (k : Nat) (F : Tab) (st : Nat) (a b : Int) (h : ¬ (a = k ∧ b = st)) : stepM cs k F st a b = F a b := fold_other _ _ _ _ h _ _


theorem stepM_self (cs : List Int) (k : Nat) (F : Tab) (st : Nat) (h : ∀ m ∈ movesL cs k st, ¬ (m.at_ = k ∧ m.st = st)) : stepM cs k F st k st = (movesL cs k st).foldl (fun o m => omin o ((F m.at_ m.st).map (· + 1))) (F k st) := fold_self _ _ _ _ h

theorem moves_away (cs : List Int) (k : Nat) (st : Nat) (hs : st < 5) : ∀ m ∈ movesL cs k st, ¬ (m.at_ = k ∧ m.st = st) := by
  have : st = 0 ∨ st = 1 ∨ st = 2 ∨ st = 3 ∨ st = 4 := by omega
  rcases this with rfl | rfl | rfl | rfl | rfl
  all_goals
    unfold movesL tailM
    simp only
    repeat' split
    all_goals simp
    all_goals try omega

end Go.Proofs.Ytofedeokliljkaa
