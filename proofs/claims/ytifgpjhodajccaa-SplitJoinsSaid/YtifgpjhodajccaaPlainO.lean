/-
  What Join answers, as the reference says it. No condition.
-/
import Derived.Test.YtifgpjhodajccaaWalkY
namespace Go.Proofs.Ytifgpjhodajccaa

/-- The contents of the first k indexes. -/
def conc (L : Tab) (k : Nat) : List Int := ((List.range k).map (fun i : Nat => (lookL L (i : Int)).getD [])).flatten

theorem conc_succ (L : Tab) (k : Nat) : conc L (k + 1) = conc L k ++ (lookL L (k : Int)).getD [] := by
  unfold conc
  rw [List.range_succ, List.map_append, List.flatten_append]
  simp

theorem conc_far {L : Tab} {t : Nat} (h : ∀ k : Nat, t ≤ k → lookL L (k : Int) = none) : ∀ d, conc L (t + d) = conc L t := by
  intro d
  induction d with
  | zero => rfl
  | succ d ih => rw [← Nat.add_assoc, conc_succ, ih, h (t + d) (by omega)]; simp

theorem conc_le (L : Tab) (k d : Nat) : (conc L k).length ≤ (conc L (k + d)).length := by
  induction d with
  | zero => exact Nat.le_refl _
  | succ d ih => rw [← Nat.add_assoc, conc_succ, List.length_append]; omega

theorem payL_conc (L : Tab) : payL L = conc L 16 := rfl

theorem valid_lt {i t p : Int} (h : validF (i, t, p) = true) : (t = 0 ∧ i = 0) ∨ (0 < t ∧ 0 ≤ i ∧ i < t) := by
  unfold validF at h
  simp at h
  omega

theorem keys_lt {ms : List Msg} {L : Tab} (hT : TabOf L ms) {t : Int} (hv : ∀ m ∈ ms, validF m.2 = true) (ht : ∀ m ∈ ms, m.2.2.1 = t) (k : Int) (x : List Int) (hk : lookL L k = some x) : (t = 0 ∧ k = 0) ∨ (0 < t ∧ 0 ≤ k ∧ k < t) := by
  obtain ⟨m, hm, rfl, _⟩ := (hT.look k x).1 hk
  have := valid_lt (i := m.2.1) (t := m.2.2.1) (p := m.2.2.2) (hv m hm)
  rw [ht m hm] at this
  exact this

theorem miss_iff {ms : List Msg} {L : Tab} (hT : TabOf L ms) {tn : Nat} (hv : ∀ m ∈ ms, validF m.2 = true) (ht : ∀ m ∈ ms, m.2.2.1 = (tn : Int)) : (L.length : Int) < (tn : Int) ↔ 0 < (missGo L tn).length := by
  have hkey : ∀ a ∈ L.map (·.1), ∃ x, lookL L a = some x := fun a ha => Option.isSome_iff_exists.1 ((look_keys a).1 ha)
  constructor
  · intro hlt
    refine Nat.pos_of_ne_zero fun h0 => ?_
    have h1 : missGo L tn = [] := List.eq_nil_of_length_eq_zero h0
    have hall : ∀ k : Nat, k < tn → (k : Int) ∈ L.map (·.1) := fun k hk => by
      rw [look_keys]
      cases hl : lookL L (k : Int) with
      | some x => rfl
      | none =>
        have : (k : Int) ∈ missGo L tn := by
          unfold missGo
          exact List.mem_map.2 ⟨k, List.mem_filter.2 ⟨List.mem_range.2 hk, by simp [hl]⟩, rfl⟩
        rw [h1] at this; cases this
    have hnd : ((List.range tn).map Int.ofNat).Nodup := by
      unfold List.Nodup
      rw [List.pairwise_map]
      exact List.pairwise_lt_range.imp (fun h => by simp; omega)
    have := List.Nodup.length_le_of_subset hnd (l₂ := L.map (·.1)) (fun a ha => by
      obtain ⟨k, hk, rfl⟩ := List.mem_map.1 ha
      exact hall k (List.mem_range.1 hk))
    simp at this
    omega
  · intro hp
    obtain ⟨a, ha⟩ := List.exists_mem_of_length_pos hp
    unfold missGo at ha
    obtain ⟨k, hk, rfl⟩ := List.mem_map.1 ha
    obtain ⟨hk1, hk2⟩ := List.mem_filter.1 hk
    rw [List.mem_range] at hk1
    have hnone : lookL L (k : Int) = none := by simpa using hk2
    have hnd : (L.map (·.1) ++ [(k : Int)]).Nodup := by
      rw [List.nodup_append]
      refine ⟨hT.nd, by simp, ?_⟩
      intro a ha c hc e
      simp at hc
      obtain ⟨x, hx, rfl⟩ := List.mem_map.1 ha
      exact lookL_none' hnone x hx (e.trans hc)
    have := List.Nodup.length_le_of_subset hnd (l₂ := (List.range tn).map Int.ofNat) (fun a ha => by
      rcases List.mem_append.1 ha with ha | ha
      · obtain ⟨x, hx⟩ := hkey a ha
        have := keys_lt hT hv ht a x hx
        have : 0 ≤ a ∧ a < tn := by omega
        exact List.mem_map.2 ⟨a.toNat, List.mem_range.2 (by omega), by simp; omega⟩
      · simp at ha; subst ha
        exact List.mem_map.2 ⟨k, List.mem_range.2 hk1, rfl⟩)
    simp at this
    omega

/-- Join, as the reference says it. -/
theorem join_ref {ms : List Msg} {m0 : Msg} {r : List Msg} {L : Tab} {tn : Nat} (hms : ms = m0 :: r) (hc : collF ms = (0, L, m0.2)) (hT : TabOf L ms) (hv : ∀ m ∈ ms, validF m.2 = true) (hp : ∀ m ∈ ms, m.2.2.1 = m0.2.2.1 ∧ m.2.2.2 = m0.2.2.2) (ht : m0.2.2.1 = (tn : Int)) :
    joinF ms = (if 0 < (missGo L tn).length then (33, []) else if 4096 < (payL L).length then (4, []) else if tn ≠ 0 ∧ m0.2.2.2 ≠ (parF (payL L) 0 : Nat) then (8, []) else (0, payL L)) ∧
    (0 < tn → payL L = conc L tn) ∧ (tn = 0 → payL L = joinS m0.1) := by
  have hkl := fun k x hk => keys_lt hT hv (t := (tn : Int)) (fun m hm => (hp m hm).1.trans ht) k x hk
  have hm0 : validF m0.2 = true := hv m0 (by rw [hms]; simp)
  have htb := valid_ix (i := m0.2.1) (t := m0.2.2.1) (p := m0.2.2.2) hm0
  have hkb : ∀ x ∈ L, 0 ≤ x.1 ∧ x.1 < 16 := fun x hx => by
    obtain ⟨j, hj⟩ := List.mem_iff_getElem?.1 hx
    have := hkl _ _ (lookL_of hT.nd hj)
    omega
  refine ⟨?_, fun h0 => ?_, fun h0 => ?_⟩
  · unfold joinF
    rw [hc]
    simp only [ne_eq, not_true_eq_false, if_false]
    unfold joinE
    rw [sizeL_pay hT.nd hkb, ht]
    have hmi := miss_iff hT (tn := tn) hv (fun m hm => (hp m hm).1.trans ht)
    by_cases hlt : (L.length : Int) < (tn : Int)
    · rw [if_pos hlt, if_pos (hmi.1 hlt)]
    · rw [if_neg hlt, if_neg (fun h => hlt (hmi.2 h))]
      by_cases h4 : 4096 < (payL L).length
      · rw [if_pos h4, if_pos h4]
      · rw [if_neg h4, if_neg h4]
        simp
  · have : conc L (tn + (16 - tn)) = conc L tn := conc_far (fun k hk => by
      cases hl : lookL L (k : Int) with
      | none => rfl
      | some x => have := hkl _ _ hl; omega) _
    rw [payL_conc, ← this]
    congr 1
    omega
  · subst h0
    have h1 : conc L (1 + 15) = conc L 1 := conc_far (fun k hk => by
      cases hl : lookL L (k : Int) with
      | none => rfl
      | some x => have := hkl _ _ hl; omega) _
    rw [payL_conc]
    show conc L (1 + 15) = _
    rw [h1]
    have hi0 : m0.2.1 = 0 := by
      have := valid_lt (i := m0.2.1) (t := m0.2.2.1) (p := m0.2.2.2) hm0
      omega
    have hl0 : lookL L 0 = some (joinS m0.1) := (hT.look _ _).2 ⟨m0, by rw [hms]; simp, hi0, rfl⟩
    have := conc_succ L 0
    rw [this]
    simp [conc, hl0]

end Go.Proofs.Ytifgpjhodajccaa
