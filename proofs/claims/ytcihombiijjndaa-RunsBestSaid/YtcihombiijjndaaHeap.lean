/-
  Plain: the queue of shares, how it lies in memory, and what container/heap does to it. No condition.
-/
import Derived.WalkKit
namespace Go.Proofs.Ytcihombiijjndaa
open Go.RowKit

structure Sh where
  ix : Int
  md : Int
  co : Int

def Sh.cells (s : Sh) : List Value := [.int .i64 s.ix, .int .i64 s.md, .int .i64 s.co]

def flat : List Sh → List Value
  | [] => []
  | s :: r => s.cells ++ flat r

theorem flat_at (qs : List Sh) (i : Nat) (s : Sh) (h : qs[i]? = some s) (j : Nat) (hj : j < 3) : (flat qs)[i * 3 + j]? = s.cells[j]? := by
  induction qs generalizing i with
  | nil => simp at h
  | cons q r ih =>
    cases i with
    | zero =>
      simp at h; subst h
      simp only [flat, Nat.zero_mul, Nat.zero_add]
      rw [List.getElem?_append_left (by simp [Sh.cells]; omega)]
    | succ i =>
      simp only [flat]
      rw [List.getElem?_append_right (by simp [Sh.cells]; omega)]
      have := ih i (by simpa using h)
      rw [← this]; congr 1; simp [Sh.cells]; omega

def lessB (s t : Sh) : Bool := if s.co = t.co then decide (s.ix < t.ix) else decide (s.co < t.co)

theorem flat_length (qs : List Sh) : (flat qs).length = qs.length * 3 := by
  induction qs with
  | nil => rfl
  | cons q r ih => simp [flat, Sh.cells, ih]; omega

theorem flat_set (qs : List Sh) (i : Nat) (t : Sh) : flat (qs.set i t) = (((flat qs).set (i * 3) (.int .i64 t.ix)).set (i * 3 + 1) (.int .i64 t.md)).set (i * 3 + 2) (.int .i64 t.co) := by
  induction qs generalizing i with
  | nil => simp [flat]
  | cons q r ih =>
    cases i with
    | zero => simp [flat, Sh.cells]
    | succ i =>
      simp only [List.set_cons_succ, flat, ih]
      rw [List.set_append_right _ _ (by simp [Sh.cells]; omega), List.set_append_right _ _ (by simp [Sh.cells]; omega), List.set_append_right _ _ (by simp [Sh.cells]; omega)]
      have e1 : (i + 1) * 3 - q.cells.length = i * 3 := by simp [Sh.cells]; omega
      have e2 : (i + 1) * 3 + 1 - q.cells.length = i * 3 + 1 := by simp [Sh.cells]; omega
      have e3 : (i + 1) * 3 + 2 - q.cells.length = i * 3 + 2 := by simp [Sh.cells]; omega
      rw [e1, e2, e3]


instance : Inhabited Sh := ⟨⟨0, 0, 0⟩⟩

def gt (qs : List Sh) (i : Nat) : Sh := qs.getD i default

def child (qs : List Sh) (i : Nat) : Nat :=
  if 2 * i + 2 < qs.length ∧ lessB (gt qs (2 * i + 2)) (gt qs (2 * i + 1)) = true then 2 * i + 2 else 2 * i + 1

def swapF (qs : List Sh) (i j : Nat) : List Sh := (qs.set i (gt qs j)).set j (gt qs i)

/-- container/heap's down: the list behind it, and where the element came to lie. -/
def downF : Nat → List Sh → Nat → List Sh × Nat
  | 0, qs, i => (qs, i)
  | f + 1, qs, i =>
    if qs.length ≤ 2 * i + 1 then (qs, i)
    else if lessB (gt qs (child qs i)) (gt qs i) = true then downF f (swapF qs i (child qs i)) (child qs i) else (qs, i)

theorem gt_some {qs : List Sh} {i : Nat} (h : i < qs.length) : qs[i]? = some (gt qs i) := by
  unfold gt; simp [h]

theorem swapF_length (qs : List Sh) (i j : Nat) : (swapF qs i j).length = qs.length := by simp [swapF]

theorem downF_length : ∀ (f : Nat) (qs : List Sh) (i : Nat), (downF f qs i).1.length = qs.length
  | 0, _, _ => rfl
  | f + 1, qs, i => by
    unfold downF
    split
    · rfl
    · split
      · rw [downF_length f, swapF_length]
      · rfl

/-- container/heap's Init, from the parent k - 1 down to 0. -/
def initF : Nat → List Sh → List Sh
  | 0, qs => qs
  | k + 1, qs => initF k (downF qs.length qs k).1

theorem initF_length : ∀ (k : Nat) (qs : List Sh), (initF k qs).length = qs.length
  | 0, _ => rfl
  | k + 1, qs => by unfold initF; rw [initF_length k, downF_length]


theorem gt_mem {qs : List Sh} {i : Nat} (h : i < qs.length) : gt qs i ∈ qs := List.mem_of_getElem? (gt_some h)

theorem swapF_perm {qs : List Sh} {i j : Nat} (hi : i < qs.length) (hj : j < qs.length) : (swapF qs i j).Perm qs := by
  have := List.set_set_perm (as := qs) hi hj
  unfold swapF gt
  simpa [hi, hj] using this

theorem child_lt {qs : List Sh} {i : Nat} (h : 2 * i + 1 < qs.length) : child qs i < qs.length := by unfold child; split <;> omega

theorem downF_perm : ∀ (f : Nat) (qs : List Sh) (i : Nat), i < qs.length → (downF f qs i).1.Perm qs
  | 0, _, _, _ => List.Perm.refl _
  | f + 1, qs, i, hi => by
    unfold downF
    split
    · exact List.Perm.refl _
    · rename_i h
      split
      · exact (downF_perm f _ _ (by rw [swapF_length]; exact child_lt (by omega))).trans (swapF_perm hi (child_lt (by omega)))
      · exact List.Perm.refl _

theorem initF_perm : ∀ (k : Nat) (qs : List Sh), k ≤ qs.length → (initF k qs).Perm qs
  | 0, _, _ => List.Perm.refl _
  | k + 1, qs, h => by
    unfold initF
    exact (initF_perm k _ (by rw [downF_length]; omega)).trans (downF_perm _ _ _ (by omega))

def bump (qs : List Sh) (S : Int) : List Sh := qs.set 0 ⟨(gt qs 0).ix, (gt qs 0).md + 1, (gt qs 0).co + 2 * S⟩

def giveF (S : Int) : Nat → List Sh → List Sh
  | 0, qs => qs
  | r + 1, qs => giveF S r (downF qs.length (bump qs S) 0).1

def mkQ (S T : Int) : Nat → List Int → List Sh
  | _, [] => []
  | i, z :: r => ⟨i, 1, 3 * S - 2 * T * z⟩ :: mkQ S T (i + 1) r

def outF (n : Nat) (qs : List Sh) : List Int := qs.foldl (fun out s => out.set s.ix.toNat s.md) (List.replicate n 0)

theorem mkQ_length (S T : Int) : ∀ (zs : List Int) (i : Nat), (mkQ S T i zs).length = zs.length
  | [], _ => rfl
  | z :: r, i => by simp [mkQ, mkQ_length S T r]

theorem giveF_length (S : Int) : ∀ (r : Nat) (qs : List Sh), (giveF S r qs).length = qs.length
  | 0, _ => rfl
  | r + 1, qs => by unfold giveF; rw [giveF_length S r, downF_length]; simp [bump]

/-- What the numbers of a share keep to behind r rounds. -/
def Keeps (n r : Nat) (qs : List Sh) : Prop := ∀ s ∈ qs, 0 ≤ s.ix ∧ s.ix < n ∧ 0 ≤ s.md ∧ s.md ≤ 1 + r ∧ -17179869184 ≤ s.co ∧ s.co ≤ 17179869184 + 17179869184 * r

theorem Keeps.perm {n r : Nat} {qs qs' : List Sh} (h : Keeps n r qs) (p : qs'.Perm qs) : Keeps n r qs' := fun s hs => h s (p.mem_iff.1 hs)

theorem Keeps.bump {n r : Nat} {qs : List Sh} {S : Int} (h : Keeps n r qs) (h0 : 0 < qs.length) (hS0 : 0 ≤ S) (hS : S ≤ 4294967296) : Keeps n (r + 1) (bump qs S) := by
  intro s hs
  rcases List.mem_or_eq_of_mem_set hs with hs | rfl
  · have := h s hs; omega
  · have := h _ (gt_mem h0); simp only; omega

theorem mkQ_mem (S T : Int) : ∀ (zs : List Int) (i : Nat) (s : Sh), s ∈ mkQ S T i zs → (i : Int) ≤ s.ix ∧ s.ix < i + zs.length ∧ s.md = 1 ∧ ∃ z ∈ zs, s.co = 3 * S - 2 * T * z
  | [], _, _, h => by simp [mkQ] at h
  | z :: r, i, s, h => by
    simp only [mkQ, List.mem_cons] at h
    rcases h with rfl | h
    · exact ⟨by simp, by simp; omega, rfl, z, by simp, rfl⟩
    · obtain ⟨h1, h2, h3, y, hy, h4⟩ := mkQ_mem S T r (i + 1) s h
      exact ⟨by omega, by simp at h2 ⊢; omega, h3, y, by simp [hy], h4⟩

theorem prod_bound {T z : Int} (hT0 : 0 ≤ T) (hT : T ≤ 65536) (hz0 : 1 ≤ z) (hz : z ≤ 65536) : 0 ≤ 2 * T * z ∧ 2 * T * z ≤ 8589934592 := by
  have h1 : 0 ≤ T * z := Int.mul_nonneg hT0 (by omega)
  have h2 : T * z ≤ 65536 * 65536 := Int.mul_le_mul hT hz (by omega) (by omega)
  rw [Int.mul_assoc]; omega

theorem made_three (n : Nat) : (madeCells #[.int .i64 0, .int .i64 0, .int .i64 0] (n * 3)).toList = flat (List.replicate n (default : Sh)) := by
  have h : ∀ m, flat (List.replicate m (default : Sh)) = List.replicate (m * 3) (.int .i64 0) := by
    intro m
    induction m with
    | zero => rfl
    | succ m ih =>
      rw [List.replicate_succ, flat, ih, Nat.succ_mul]
      rw [show m * 3 + 3 = 3 + m * 3 by omega, ← List.replicate_append_replicate]; rfl
  rw [h]
  apply List.ext_getElem
  · simp [madeCells]
  · intro i h1 h2
    simp only [madeCells, Array.toList_map, List.getElem_map, List.getElem_replicate]
    have hm : ∀ j, j < 3 → (#[Value.int .i64 0, .int .i64 0, .int .i64 0] : Array Value)[j]! = .int .i64 0 := by
      intro j hj
      match j, hj with
      | 0, _ => rfl
      | 1, _ => rfl
      | 2, _ => rfl
    exact hm _ (Nat.mod_lt _ (by decide))

def partQ (Q : List Sh) (k : Nat) : List Sh := Q.take k ++ List.replicate (Q.length - k) default

theorem partQ_length {Q : List Sh} {k : Nat} (h : k ≤ Q.length) : (partQ Q k).length = Q.length := by simp [partQ]; omega

theorem partQ_set {Q : List Sh} {k : Nat} {s : Sh} (h : Q[k]? = some s) : (partQ Q k).set k s = partQ Q (k + 1) := by
  have hk : k < Q.length := by
    rcases Nat.lt_or_ge k Q.length with h1 | h1
    · exact h1
    · rw [List.getElem?_eq_none h1] at h; cases h
  have hs : Q[k] = s := by rw [List.getElem?_eq_getElem hk] at h; simpa using h
  unfold partQ
  rw [List.set_append_right _ _ (by simp; omega)]
  have e1 : k - (List.take k Q).length = 0 := by simp; omega
  rw [e1, show Q.length - k = (Q.length - (k + 1)) + 1 by omega, List.replicate_succ, List.set_cons_zero, List.take_succ_eq_append_getElem hk, hs]
  simp

theorem mkQ_get (S T : Int) : ∀ (zs : List Int) (i k : Nat) (z : Int) (r : List Int), zs.drop k = z :: r → (mkQ S T i zs)[k]? = some ⟨(i + k : Nat), 1, 3 * S - 2 * T * z⟩
  | [], _, _, _, _, h => by simp at h
  | y :: q, i, 0, z, r, h => by simp at h; simp [mkQ, h.1]
  | y :: q, i, k + 1, z, r, h => by
    have := mkQ_get S T q (i + 1) k z r (by simpa using h)
    simp only [mkQ, List.getElem?_cons_succ, this]
    rw [show i + 1 + k = i + (k + 1) by omega]

theorem bump_flat (qs : List Sh) (S : Int) (h : 0 < qs.length) : flat (bump qs S) = ((flat qs).set 1 (.int .i64 ((gt qs 0).md + 1))).set 2 (.int .i64 ((gt qs 0).co + 2 * S)) := by
  unfold bump
  rw [flat_set]
  simp only [Nat.zero_mul, Nat.zero_add]
  have e : (flat qs).set 0 (.int .i64 (gt qs 0).ix) = flat qs := by
    cases qs with
    | nil => simp at h
    | cons q r => simp [flat, Sh.cells, gt]
  rw [e]

theorem drop_gt {qs : List Sh} {j : Nat} (h : j < qs.length) : qs.drop j = gt qs j :: qs.drop (j + 1) := by
  rw [List.drop_eq_getElem_cons h]; unfold gt; simp [h]
end Go.Proofs.Ytcihombiijjndaa
