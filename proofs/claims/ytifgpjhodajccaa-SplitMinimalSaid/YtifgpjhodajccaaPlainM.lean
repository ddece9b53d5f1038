/-
  Plain functions for the joining of messages: what split.collect, Join and Missing answer. No condition.
-/
import Derived.Test.YtifgpjhodajccaaWalkN
namespace Go.Proofs.Ytifgpjhodajccaa

/-- A header: index, total, parity. -/
abbrev Hd := Int × Int × Int
abbrev Msg := List Sg × Hd
abbrev Tab := List (Int × List Int)

def validF (h : Hd) : Bool := (decide (h.1 = 0) && decide (h.2.1 = 0) && decide (h.2.2 = 0)) || (decide (2 ≤ h.2.1) && decide (h.2.1 ≤ 16) && decide (0 ≤ h.1) && decide (h.1 < h.2.1) && decide (0 ≤ h.2.2) && decide (h.2.2 ≤ 255))

def lookL (L : Tab) (k : Int) : Option (List Int) := (L.find? (fun x => x.1 == k)).map (·.2)

def collGo (t p : Int) : List Msg → Tab → Option Tab
  | [], L => some L
  | m :: r, L => if m.2.2.1 ≠ t ∨ m.2.2.2 ≠ p then none else
    match lookL L m.2.1 with
    | none => collGo t p r (L ++ [(m.2.1, joinS m.1)])
    | some x => if x = joinS m.1 then collGo t p r L else none

def collE (h : Hd) : Option Tab → Int × Tab × Hd
  | none => (34, [], (0, 0, 0))
  | some L => (0, L, h)

def collF (ms : List Msg) : Int × Tab × Hd :=
  match ms with
  | [] => (5, [], (0, 0, 0))
  | m :: r => if (m :: r).all (fun m => validF m.2) then collE m.2 (collGo m.2.2.1 m.2.2.2 (m :: r) []) else (1, [], (0, 0, 0))

def sizeL (L : Tab) : Nat := ((L.map (·.2)).flatten).length
def payL (L : Tab) : List Int := ((List.range 16).map (fun k : Nat => (lookL L (k : Int)).getD [])).flatten

def joinE (L : Tab) (h : Hd) : Int × List Int :=
  if (L.length : Int) < h.2.1 then (33, []) else if 4096 < sizeL L then (4, []) else
  if h.2.1 ≠ 0 ∧ h.2.2 ≠ (parF (payL L) 0 : Nat) then (8, []) else (0, payL L)

def joinF (ms : List Msg) : Int × List Int := if (collF ms).1 ≠ 0 then ((collF ms).1, []) else joinE (collF ms).2.1 (collF ms).2.2

def missGo (L : Tab) (n : Nat) : List Int := (((List.range n).filter (fun k : Nat => (lookL L (k : Int)).isNone))).map Int.ofNat

def missF (ms : List Msg) : Int × List Int := if (collF ms).1 ≠ 0 then ((collF ms).1, []) else (0, missGo (collF ms).2.1 (collF ms).2.2.2.1.toNat)

theorem lookL_of {L : Tab} (hnd : (L.map (·.1)).Nodup) {j : Nat} {x : Int × List Int} (h : L[j]? = some x) : lookL L x.1 = some x.2 := by
  unfold lookL
  induction L generalizing j with
  | nil => simp at h
  | cons y r ih =>
    simp only [List.map_cons, List.nodup_cons] at hnd
    cases j with
    | zero => simp at h; subst h; simp
    | succ j =>
      simp only [List.getElem?_cons_succ] at h
      have hne : ¬ y.1 = x.1 := fun e => hnd.1 (by rw [e]; exact List.mem_map.2 ⟨x, List.mem_of_getElem? h, rfl⟩)
      rw [List.find?_cons_of_neg (by simpa using hne)]
      exact ih hnd.2 h

theorem lookL_none {L : Tab} {k : Int} (h : ∀ x ∈ L, x.1 ≠ k) : lookL L k = none := by
  unfold lookL
  rw [List.find?_eq_none.2 (fun x hx => by simpa using h x hx)]
  rfl

theorem lookL_none' {L : Tab} {k : Int} (h : lookL L k = none) : ∀ x ∈ L, x.1 ≠ k := by
  intro x hx e
  unfold lookL at h
  rw [Option.map_eq_none_iff, List.find?_eq_none] at h
  exact h x hx (by simpa using e)

theorem lookL_mem {L : Tab} {k : Int} {x : List Int} (h : lookL L k = some x) : (k, x) ∈ L := by
  unfold lookL at h
  rw [Option.map_eq_some_iff] at h
  obtain ⟨y, h1, rfl⟩ := h
  have h2 := List.find?_some h1
  have h3 := List.mem_of_find?_eq_some h1
  simp at h2
  subst h2
  exact h3

/-- The keys in rising order, and what lies at them. -/
theorem sorted_keys (L : Tab) (hnd : (L.map (·.1)).Nodup) (hk : ∀ x ∈ L, 0 ≤ x.1 ∧ x.1 < 16) {ks : List Int} (hp : ks.Perm (L.map (·.1))) :
    ks.mergeSort (fun x y => decide (x ≤ y)) = ((List.range 16).map Int.ofNat).filter (fun k => (lookL L k).isSome) := by
  refine List.Perm.eq_of_pairwise (le := fun a b : Int => a ≤ b) (fun a b _ _ h1 h2 => by omega) ?_ ?_ ?_
  · have := List.pairwise_mergeSort (le := fun x y : Int => decide (x ≤ y)) (by intro a b c h1 h2; simp at *; omega) (by intro a b; simp; omega) ks
    exact this.imp (fun h => by simpa using h)
  · refine List.Pairwise.filter _ ?_
    rw [List.pairwise_map]
    exact List.pairwise_lt_range.imp (fun h => by simp; omega)
  · refine (List.mergeSort_perm _ _).trans (hp.trans ?_)
    refine (List.perm_ext_iff_of_nodup hnd (by unfold List.Nodup; refine List.Pairwise.filter _ ?_; rw [List.pairwise_map]; exact List.pairwise_lt_range.imp (fun h => by simp; omega))).2 ?_
    · intro a
      rw [List.mem_filter, List.mem_map, List.mem_map]
      constructor
      · rintro ⟨x, hx, rfl⟩
        have hb := hk x hx
        refine ⟨⟨x.1.toNat, by simp; omega, by simp; omega⟩, ?_⟩
        obtain ⟨j, hj⟩ := List.mem_iff_getElem?.1 hx
        rw [lookL_of hnd hj]; rfl
      · rintro ⟨_, h2⟩
        obtain ⟨x, hx⟩ := Option.isSome_iff_exists.1 h2
        exact ⟨_, lookL_mem hx, rfl⟩

theorem flat_filter (L : Tab) (ks : List Int) : ((ks.filter (fun k => (lookL L k).isSome)).map (fun k => (lookL L k).getD [])).flatten = (ks.map (fun k => (lookL L k).getD [])).flatten := by
  induction ks with
  | nil => rfl
  | cons a r ih =>
    simp only [List.filter_cons]
    cases h : lookL L a with
    | none => simp [h, ih]
    | some x => simp [h, ih]

theorem pay_sorted (L : Tab) (hnd : (L.map (·.1)).Nodup) (hk : ∀ x ∈ L, 0 ≤ x.1 ∧ x.1 < 16) {ks : List Int} (hp : ks.Perm (L.map (·.1))) :
    ((ks.mergeSort (fun x y => decide (x ≤ y))).map (fun k => (lookL L k).getD [])).flatten = payL L := by
  rw [sorted_keys L hnd hk hp, flat_filter, List.map_map]
  rfl

end Go.Proofs.Ytifgpjhodajccaa
