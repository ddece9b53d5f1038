/-
  Plain: what Decode computes.
-/
import Derived.Test.YtofedeokliljkaaWalkZa
namespace Go.Proofs.Ytofedeokliljkaa
open Go.RowKit Go.Maps

/-- The last value below k whose pattern some widths are. -/
def findV : Nat → List Int → Option Int
  | 0, _ => none
  | k + 1, ws => if widL k = ws then some (k : Int) else findV k ws

/-- The value whose pattern some widths are. -/
def findA (ws : List Int) : Option Int := findV 106 ws

def decG (f : List Int → Option Int) : Nat → List Int → List Int → Option (List Int)
  | 0, _, acc => some acc
  | q + 1, ws, acc => match f (ws.take 6) with
    | none => none
    | some v => decG f q (ws.drop 6) (acc ++ [v])

def decL (q : Nat) (ws acc : List Int) : Option (List Int) := decG findA q ws acc

theorem decG_none {f : List Int → Option Int} {q : Nat} {ws acc : List Int} (h : f (ws.take 6) = none) : decG f (q + 1) ws acc = none := by simp only [decG, h]
theorem decG_some {f : List Int → Option Int} {q : Nat} {ws acc : List Int} {v : Int} (h : f (ws.take 6) = some v) : decG f (q + 1) ws acc = decG f q (ws.drop 6) (acc ++ [v]) := by simp only [decG, h]

/-- What Decode computes. -/
def decF (bs : List Bool) : List Int × Int :=
  if (marg bs).1 = bs.length then ([], 5) else if (marg bs).1 < 10 ∨ (marg bs).2 < 10 then ([], 9)
  else if (widths bs).length < 19 ∨ ((widths bs).length - 7) % 6 ≠ 0 then ([], 7)
  else if (widths bs).drop ((widths bs).length - 7) ≠ widL 106 then ([], 20)
  else match decL (((widths bs).length - 7) / 6) (widths bs) [] with
    | none => ([], 18)
    | some vs => charsF (vs ++ [106])

def unI : List Value → Option (List Int)
  | [] => some []
  | .int .i64 x :: r => (unI r).map (x :: ·)
  | _ :: _ => none

theorem unI_map : ∀ xs : List Int, unI (xs.map (Value.int .i64)) = some xs
  | [] => rfl
  | x :: r => by simp [unI, unI_map r]

theorem unI_inv : ∀ (l : List Value) (xs : List Int), unI l = some xs → l = xs.map (Value.int .i64)
  | [], xs, h => by simp [unI] at h; subst h; rfl
  | v :: r, xs, h => by
    unfold unI at h
    split at h
    · cases h
      simp_all
    · rename_i x r' e
      cases e
      cases hr : unI r with
      | none => rw [hr] at h; cases h
      | some ys => rw [hr] at h; simp at h; subst h; simp [unI_inv r ys hr]
    · cases h

/-- A table by widths, as a function from keys. -/
def encW (T : List Int → Option Int) : Value → Option Value
  | .agg cs => match unI cs.toList with
    | some xs => (T xs).map (Value.int .i64)
    | none => none
  | _ => none

theorem encW_at (T : List Int → Option Int) (xs : List Int) : encW T (.agg (xs.map (Value.int .i64)).toArray) = (T xs).map (Value.int .i64) := by
  simp [encW, unI_map]

theorem encW_none : encW (fun _ => none) = fun _ => none := by
  funext v
  unfold encW
  repeat' split
  all_goals rfl

theorem encW_set (k : Nat) : upd (encW (findV k)) (.agg ((widL k).map (Value.int .i64)).toArray) (.int .i64 (k : Int)) = encW (findV (k + 1)) := by
  funext v
  unfold upd
  by_cases h : v = .agg ((widL k).map (Value.int .i64)).toArray
  · subst h; rw [if_pos rfl, encW_at]; simp [findV]
  · rw [if_neg h]
    cases v with
    | agg cs =>
      obtain ⟨l⟩ := cs
      show encW (findV k) (.agg l.toArray) = encW (findV (k + 1)) (.agg l.toArray)
      unfold encW
      simp only
      cases hu : unI l with
      | none => rfl
      | some xs =>
        simp only [findV]
        rw [if_neg]
        intro e
        apply h
        rw [unI_inv l xs hu, e]
    | _ => rfl

theorem key52 (xs : List Int) (hl : xs.length = 6) (hx : ∀ x ∈ xs, (Lit.int .i64 x).wf = true) : ∃ l, keyOf Try.prog 52 (.agg (xs.map (Value.int .i64)).toArray) = some l := by
  have c52 : Try.prog.cellsOf 52 = 6 := by kernel_rfl
  have c3 : Try.prog.cellsOf 3 = 1 := by kernel_rfl
  have kt : Try.prog.keyType 52 = true := by kernel_rfl
  match xs, hl with
  | [x0, x1, x2, x3, x4, x5], _ =>
    have hl : ∃ q, Try.prog.keyLits 93 52 [.int .i64 x0, .int .i64 x1, .int .i64 x2, .int .i64 x3, .int .i64 x4, .int .i64 x5] = some q := by
      have l0 : Try.prog.keyLits 92 3 [.int .i64 x0] = some [.int .i64 x0] := lits3 91 x0 (hx _ (by simp))
      have l1 : Try.prog.keyLits 92 3 [.int .i64 x1] = some [.int .i64 x1] := lits3 91 x1 (hx _ (by simp))
      have l2 : Try.prog.keyLits 92 3 [.int .i64 x2] = some [.int .i64 x2] := lits3 91 x2 (hx _ (by simp))
      have l3 : Try.prog.keyLits 92 3 [.int .i64 x3] = some [.int .i64 x3] := lits3 91 x3 (hx _ (by simp))
      have l4 : Try.prog.keyLits 92 3 [.int .i64 x4] = some [.int .i64 x4] := lits3 91 x4 (hx _ (by simp))
      have l5 : Try.prog.keyLits 92 3 [.int .i64 x5] = some [.int .i64 x5] := lits3 91 x5 (hx _ (by simp))
      rw [show (93 : Nat) = 92 + 1 from rfl, Program.keyLits.eq_def]
      simp only [Try.underlying52]
      rw [if_pos (by rw [c52]; rfl)]
      exact ⟨_, by simp [show List.range 6 = [0, 1, 2, 3, 4, 5] from rfl, c3, l0, l1, l2, l3, l4, l5]; rfl⟩
    obtain ⟨q, hq⟩ := hl
    refine ⟨.string (keyBytes q), ?_⟩
    unfold keyOf
    rw [Try.underlying52]
    simp only
    rw [if_pos (by rw [kt]; simp [Value.formed, Try.underlying52, c52])]
    show Option.map _ (Try.prog.keyLits 93 52 [.int .i64 x0, .int .i64 x1, .int .i64 x2, .int .i64 x3, .int .i64 x4, .int .i64 x5]) = _
    rw [hq]; rfl

theorem arrayAt6 (a : Addr) (cap : Nat) (w : World) : (Instr.arrayAt 52 (.slice (some a) 6 cap)).run Try.prog w = .ok (.pointer (some a)) w := by kernel_rfl

end Go.Proofs.Ytofedeokliljkaa
