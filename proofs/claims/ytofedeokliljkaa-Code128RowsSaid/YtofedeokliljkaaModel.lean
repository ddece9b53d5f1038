/-
  Plain functions: what the functions of package runs and of its reference compute. No condition.
-/
import Derived.Lib.Hide
namespace Go.Proofs.Ytofedeokliljkaa

def inR : List Int → Bool
  | [] => true
  | x :: r => if x < 1 ∨ 65536 < x then false else inR r

def fewF : Nat → List Int → Bool
  | _, [] => true
  | i, x :: r => if 60 ≤ i ∨ (2000 < x ∧ x ≤ 65536) then false else fewF (i + 1) r

def totalF : Int → List Int → Int
  | s, [] => s
  | s, x :: r => if x < 1 ∨ 65536 < x then -1 else totalF (s + x) r

def sameF {α : Type} [DecidableEq α] : List α → List α → Bool
  | x :: r, y :: q => if x = y then sameF r q else false
  | _, _ => true

def leadF : Nat → List Bool → Nat
  | n, [] => n
  | n, b :: r => if b then n else leadF (n + 1) r

theorem sameF_eq {α : Type} [DecidableEq α] : ∀ (xs ys : List α), xs.length = ys.length → sameF xs ys = decide (xs = ys)
  | [], [], _ => by simp [sameF]
  | [], _ :: _, h => by simp at h
  | _ :: _, [], h => by simp at h
  | x :: r, y :: q, h => by
    have ih := sameF_eq r q (by simpa using h)
    by_cases e : x = y <;> simp [sameF, e, ih]

def marg (bs : List Bool) : Nat × Nat := (leadF 0 bs, leadF 0 bs.reverse)

def gcdF : Nat → Int → Int → Int
  | 0, u, _ => u
  | f + 1, u, w => if 0 < w then gcdF f w (u % w) else u

def unitF : Int → List Int → Int
  | u, [] => u
  | u, x :: r => if x < 1 then 0 else unitF (gcdF (x.toNat + 1) u x) r


def modsI : Nat → List Int → List Bool
  | _, [] => []
  | i, x :: r => List.replicate x.toNat (i % 2 == 0) ++ modsI (i + 1) r

def sumI : List Int → Int
  | [] => 0
  | x :: r => x + sumI r

def modules (zs : List Int) : List Bool × Int :=
  if zs.length = 0 then ([], 5) else if zs.length % 2 = 0 then ([], 7) else if inR zs = false then ([], 3) else if 65536 < sumI zs then ([], 4) else (modsI 0 zs, 0)

theorem totalF_bad : ∀ (zs : List Int) (s : Int), inR zs = false → totalF s zs = -1
  | [], _, h => by simp [inR] at h
  | x :: r, s, h => by
    unfold inR at h; unfold totalF
    split
    · rfl
    · rename_i hx; rw [if_neg hx] at h; exact totalF_bad r _ h

theorem totalF_good : ∀ (zs : List Int) (s : Int), inR zs = true → totalF s zs = s + sumI zs
  | [], _, _ => by simp [totalF, sumI]
  | x :: r, s, h => by
    unfold inR at h; unfold totalF sumI
    split
    · rename_i hx; rw [if_pos hx] at h; simp at h
    · rename_i hx; rw [if_neg hx] at h; rw [totalF_good r _ h]; omega

theorem sumI_nonneg : ∀ (zs : List Int), inR zs = true → 0 ≤ sumI zs
  | [], _ => by simp [sumI]
  | x :: r, h => by
    unfold inR at h; unfold sumI
    split at h
    · simp at h
    · have := sumI_nonneg r h; omega

theorem modsI_length : ∀ (zs : List Int) (i : Nat), inR zs = true → ((modsI i zs).length : Int) = sumI zs
  | [], _, _ => by simp [modsI, sumI]
  | x :: r, i, h => by
    unfold inR at h; unfold modsI sumI
    split at h
    · simp at h
    · have := modsI_length r (i + 1) h
      simp; omega

def strF (k : Nat) : List Bool → List Bool
  | [] => []
  | x :: r => List.replicate k x ++ strF k r

def stretch (bs : List Bool) (k : Int) : List Bool × Int :=
  if k < 1 then ([], 3) else if 0 < bs.length ∧ 65536 / (bs.length : Int) < k then ([], 4) else (strF k.toNat bs, 0)

theorem strF_length (k : Nat) : ∀ bs : List Bool, (strF k bs).length = bs.length * k
  | [] => by simp [strF]
  | x :: r => by simp [strF, strF_length k r, Nat.add_mul, Nat.add_comm]

theorem stretch_bound (bs : List Bool) (k : Int) (h1 : 1 ≤ k) (h : ¬ (0 < bs.length ∧ 65536 / (bs.length : Int) < k)) : (strF k.toNat bs).length ≤ 65536 := by
  rw [strF_length]
  by_cases h0 : 0 < bs.length
  · have h2 : k ≤ 65536 / (bs.length : Int) := by omega
    have h3 : k * (bs.length : Int) ≤ 65536 := Int.le_trans (Int.mul_le_mul_of_nonneg_right h2 (by omega)) (Int.ediv_mul_le 65536 (by omega))
    obtain ⟨q, rfl⟩ := Int.eq_ofNat_of_zero_le (show 0 ≤ k by omega)
    rw [← Int.natCast_mul] at h3
    rw [Int.toNat_natCast, Nat.mul_comm]; omega
  · have : bs.length = 0 := by omega
    rw [this]; simp

def shrF (k : Int) : Nat → List Bool → List Bool → List Bool × Int
  | _, acc, [] => (acc, 0)
  | i, acc, x :: r => if (i : Int) % k = 0 then shrF k (i + 1) (acc ++ [x]) r else if acc.getLast? = some x then shrF k (i + 1) acc r else ([], 9)

def shrink (bs : List Bool) (k : Int) : List Bool × Int :=
  if k < 1 then ([], 3) else if (bs.length : Int) % k ≠ 0 then ([], 7) else shrF k 0 [] bs

def runF : Nat → List Bool → List Int
  | _, [] => []
  | n, [_] => [(n : Int) + 1]
  | n, x :: y :: r => if x = y then runF (n + 1) (y :: r) else ((n : Int) + 1) :: runF 0 (y :: r)

def core (bs : List Bool) : List Bool := (bs.take (bs.length - (marg bs).2)).drop (marg bs).1

def widths (bs : List Bool) : List Int := runF 0 (core bs)

theorem leadF_eq : ∀ (bs : List Bool) (n : Nat), leadF n bs = n + leadF 0 bs
  | [], n => by simp [leadF]
  | b :: r, n => by
    cases b
    · simp only [leadF, Bool.false_eq_true, if_false]
      rw [leadF_eq r (n + 1), leadF_eq r (0 + 1)]; omega
    · simp [leadF]

theorem leadF_le : ∀ (bs : List Bool), leadF 0 bs ≤ bs.length
  | [] => by simp [leadF]
  | b :: r => by
    cases b
    · simp only [leadF, Bool.false_eq_true, if_false]
      rw [leadF_eq]; have := leadF_le r; simp; omega
    · simp [leadF]

theorem leadF_le_of : ∀ (bs : List Bool) (i : Nat), bs[i]? = some true → leadF 0 bs ≤ i
  | [], i, h => by simp at h
  | b :: r, i, h => by
    cases b
    · cases i with
      | zero => simp at h
      | succ i =>
        simp only [leadF, Bool.false_eq_true, if_false]
        rw [leadF_eq]; have := leadF_le_of r i (by simpa using h); omega
    · simp [leadF]

theorem leadF_at : ∀ (bs : List Bool), leadF 0 bs < bs.length → bs[leadF 0 bs]? = some true
  | [], h => by simp at h
  | b :: r, h => by
    cases b
    · simp only [leadF, Bool.false_eq_true, if_false] at h ⊢
      rw [leadF_eq] at h ⊢
      have := leadF_at r (by simp at h; omega)
      rw [Nat.add_comm]; simpa using this
    · simp [leadF]

/-- Either no module is dark, and both margins are the whole row, or the two margins leave some modules between them. -/
theorem marg_cases (bs : List Bool) : ((marg bs).1 = bs.length ∧ (marg bs).2 = bs.length) ∨ ((marg bs).1 + (marg bs).2 < bs.length) := by
  unfold marg
  simp only
  have h1 := leadF_le bs
  have h2 := leadF_le bs.reverse
  rw [List.length_reverse] at h2
  by_cases h : leadF 0 bs < bs.length
  · right
    have ha := leadF_at bs h
    have := leadF_le_of bs.reverse (bs.length - 1 - leadF 0 bs) (by
      rw [List.getElem?_reverse (by omega)]
      rw [show bs.length - 1 - (bs.length - 1 - leadF 0 bs) = leadF 0 bs by omega]; exact ha)
    omega
  · left
    refine ⟨by omega, ?_⟩
    by_cases h' : leadF 0 bs.reverse < bs.length
    · have ha := leadF_at bs.reverse (by simpa using h')
      have hlt : leadF 0 bs.reverse < bs.length := h'
      rw [List.getElem?_reverse hlt] at ha
      have := leadF_le_of bs _ ha
      omega
    · omega
end Go.Proofs.Ytofedeokliljkaa
