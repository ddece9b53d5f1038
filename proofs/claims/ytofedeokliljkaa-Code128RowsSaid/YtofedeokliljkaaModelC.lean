/-
  Plain functions: what the functions of package code128 and of its reference compute. No condition.
-/
import Derived.Test.YtofedeokliljkaaModel
namespace Go.Proofs.Ytofedeokliljkaa

def charF (v s : Int) : Int := if s = 2 ∧ 64 ≤ v then v - 64 else v + 32

def valF (c s : Int) : Int × Bool := if s = 2 ∧ c < 32 then (c + 64, true) else if (s = 2 ∧ c ≤ 95) ∨ (s = 3 ∧ 32 ≤ c ∧ c < 128) then (c - 32, true) else (0, false)

def funF (c s : Int) : Int × Bool := if c = 256 then (102, true) else if s = 4 then (0, false) else if c = 257 then (97, true) else if c = 258 then (96, true) else if s = 2 then (101, true) else (100, true)

def dataF (c s : Int) : Int :=
  if c = 256 then 102 else if c = 257 then 97 else if c = 258 then 96 else if c = 259 then 101 - s
  else if 32 ≤ c ∧ c ≤ 95 then c - 32 else if 0 ≤ c ∧ c < 32 ∧ s = 0 then c + 64 else if 96 ≤ c ∧ c ≤ 127 ∧ s = 1 then c - 32 else -1

/-- The check value's sum, from index i on. -/
def chkF : Nat → Int → List Int → Int
  | _, s, [] => s
  | i, s, v :: r => chkF (i + 1) ((s + i * v) % 103) r

def inV (hi : Int) : List Int → Bool
  | [] => true
  | v :: r => if v < 0 ∨ hi < v then false else inV hi r

def checkF (vs : List Int) : Int × Int :=
  match vs with
  | [] => (0, 5)
  | v :: r => if inV 105 (v :: r) = false then (0, 3) else if v < 103 then (0, 19) else (chkF 0 v (v :: r), 0)

def intF : Int → List Int → List Int → List Int × Int
  | _, acc, [] => (acc, 0)
  | set, acc, v :: r =>
    if 102 < v then ([], 22)
    else if v = 102 then intF set (acc ++ [256]) r
    else if set = 4 ∧ v ≤ 99 then intF set (acc ++ [48 + v / 10, 48 + v % 10]) r
    else if v ≤ 95 then intF set (acc ++ [charF v set]) r
    else if v = 96 then intF set (acc ++ [258]) r
    else if v = 97 then intF set (acc ++ [257]) r
    else if v = 98 then
      match r with
      | [] => ([], 22)
      | u :: q => if 95 < u then ([], 22) else intF set (acc ++ [charF u (5 - set)]) q
    else if v = 99 then intF 4 acc r
    else if v = 100 ∧ set ≠ 3 then intF 3 acc r
    else if v = 101 ∧ set ≠ 2 then intF 2 acc r
    else intF set (acc ++ [259]) r

def rchkF : Nat → Int → List Int → Int
  | _, s, [] => s
  | i, s, v :: r => rchkF (i + 1) ((s + (max 1 i : Nat) * v) % 103) r

theorem rchk_succ : ∀ (vs : List Int) (i : Nat) (s : Int), rchkF (i + 1) s vs = chkF (i + 1) s vs
  | [], _, _ => rfl
  | v :: r, i, s => by
    unfold rchkF chkF
    rw [rchk_succ r (i + 1), show max 1 (i + 1) = i + 1 by omega]

theorem rchk_eq (v : Int) (r : List Int) : rchkF 0 0 (v :: r) = chkF 0 v (v :: r) := by
  unfold rchkF chkF
  rw [rchk_succ]
  congr 1
  simp

theorem chkF_range : ∀ (vs : List Int) (i : Nat) (s : Int), vs ≠ [] → 0 ≤ chkF i s vs ∧ chkF i s vs < 103
  | [], _, _, h => absurd rfl h
  | [v], i, s, _ => by unfold chkF; unfold chkF; omega
  | v :: u :: r, i, s, _ => by rw [chkF]; exact chkF_range (u :: r) (i + 1) _ (by simp)

theorem inV_mem {hi : Int} : ∀ {vs : List Int}, inV hi vs = true → ∀ v ∈ vs, 0 ≤ v ∧ v ≤ hi
  | [], _, v, hv => by simp at hv
  | x :: r, h, v, hv => by
    unfold inV at h
    split at h
    · simp at h
    · simp only [List.mem_cons] at hv
      rcases hv with rfl | hv
      · omega
      · exact inV_mem h v hv
end Go.Proofs.Ytofedeokliljkaa
