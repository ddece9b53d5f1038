/-
  What collect, Join and Missing answer depends on the set of the messages alone. No condition.
-/
import Derived.Test.YtifgpjhodajccaaWalkP
namespace Go.Proofs.Ytifgpjhodajccaa

/-- Two messages that contradict each other. -/
def Clash (m m' : Msg) : Prop := m.2.2.1 ≠ m'.2.2.1 ∨ m.2.2.2 ≠ m'.2.2.2 ∨ (m.2.1 = m'.2.1 ∧ joinS m.1 ≠ joinS m'.1)

def Conf (ms : List Msg) : Prop := ∃ m ∈ ms, ∃ m' ∈ ms, Clash m m'

/-- A table of messages. -/
structure TabOf (L : Tab) (ps : List Msg) : Prop where
  nd : (L.map (·.1)).Nodup
  look : ∀ k x, lookL L k = some x ↔ ∃ m ∈ ps, m.2.1 = k ∧ joinS m.1 = x

theorem lookL_app (L : Tab) (k : Int) (x : List Int) (h : lookL L k = none) (j : Int) : lookL (L ++ [(k, x)]) j = if j = k then some x else lookL L j := by
  unfold lookL at *
  rw [List.find?_append]
  by_cases e : j = k
  · subst e
    rw [if_pos rfl]
    rw [Option.map_eq_none_iff] at h
    rw [h]; simp
  · rw [if_neg e]
    cases hf : L.find? (fun y => y.1 == j) with
    | some y => simp
    | none =>
      have : ¬ k = j := fun h => e h.symm
      simp [this]

theorem TabOf.nil : TabOf [] [] := ⟨by simp, fun k x => by simp [lookL]⟩

theorem TabOf.new {L : Tab} {ps : List Msg} (h : TabOf L ps) {m : Msg} (hn : lookL L m.2.1 = none) : TabOf (L ++ [(m.2.1, joinS m.1)]) (ps ++ [m]) := by
  refine ⟨?_, fun k x => ?_⟩
  · rw [List.map_append, List.nodup_append]
    refine ⟨h.nd, by simp, ?_⟩
    intro a ha c hc e
    simp at hc
    obtain ⟨y, hy, rfl⟩ := List.mem_map.1 ha
    exact lookL_none' hn y hy (e.trans hc)
  · rw [lookL_app L _ _ hn]
    constructor
    · intro h1
      by_cases e : k = m.2.1
      · rw [if_pos e] at h1
        exact ⟨m, by simp, e.symm, by simpa using h1⟩
      · rw [if_neg e] at h1
        obtain ⟨m', h2, h3⟩ := (h.look k x).1 h1
        exact ⟨m', by simp [h2], h3⟩
    · rintro ⟨m', h2, h3, h4⟩
      rcases List.mem_append.1 h2 with h2 | h2
      · have h5 := (h.look k x).2 ⟨m', h2, h3, h4⟩
        rw [if_neg (by rintro rfl; rw [hn] at h5; cases h5)]
        exact h5
      · simp at h2; subst h2
        rw [if_pos h3.symm, h4]

theorem TabOf.same {L : Tab} {ps : List Msg} (h : TabOf L ps) {m : Msg} (hn : lookL L m.2.1 = some (joinS m.1)) : TabOf L (ps ++ [m]) := by
  refine ⟨h.nd, fun k x => ?_⟩
  rw [h.look]
  constructor
  · rintro ⟨m', h2, h3⟩; exact ⟨m', by simp [h2], h3⟩
  · rintro ⟨m', h2, h3, h4⟩
    rcases List.mem_append.1 h2 with h2 | h2
    · exact ⟨m', h2, h3, h4⟩
    · simp at h2; subst h2
      exact (h.look k x).1 (by rw [← h3, hn, h4])

theorem collGo_spec (t p : Int) : ∀ (rs : List Msg) (L : Tab) (ps : List Msg), TabOf L ps → (∀ m ∈ ps, m.2.2.1 = t ∧ m.2.2.2 = p) →
    (∃ L', collGo t p rs L = some L' ∧ TabOf L' (ps ++ rs) ∧ ∀ m ∈ ps ++ rs, m.2.2.1 = t ∧ m.2.2.2 = p) ∨
    (collGo t p rs L = none ∧ ((∃ m ∈ rs, m.2.2.1 ≠ t ∨ m.2.2.2 ≠ p) ∨ ∃ m ∈ ps ++ rs, ∃ m' ∈ ps ++ rs, m.2.1 = m'.2.1 ∧ joinS m.1 ≠ joinS m'.1)) := by
  intro rs
  induction rs with
  | nil => intro L ps hT hP; exact .inl ⟨L, rfl, by simpa using hT, by simpa using hP⟩
  | cons m r ih =>
    intro L ps hT hP
    by_cases hb : m.2.2.1 ≠ t ∨ m.2.2.2 ≠ p
    · exact .inr ⟨collGo_bad hb, .inl ⟨m, by simp, hb⟩⟩
    · have hm : m.2.2.1 = t ∧ m.2.2.2 = p := by omega
      have hP2 : ∀ m' ∈ ps ++ [m], m'.2.2.1 = t ∧ m'.2.2.2 = p := fun m' h' => by
        rcases List.mem_append.1 h' with h' | h'
        · exact hP m' h'
        · simp at h'; subst h'; exact hm
      have happ : ps ++ m :: r = ps ++ [m] ++ r := by simp
      rw [happ]
      cases hl : lookL L m.2.1 with
      | none =>
        have hs : collGo t p (m :: r) L = collGo t p r (L ++ [(m.2.1, joinS m.1)]) := by
          rw [collGo, if_neg hb]; simp only [hl]
        rw [hs]
        rcases ih _ _ (hT.new hl) hP2 with h | ⟨h1, h2 | h2⟩
        · exact .inl h
        · obtain ⟨m', h3, h4⟩ := h2
          exact .inr ⟨h1, .inl ⟨m', by simp [h3], h4⟩⟩
        · exact .inr ⟨h1, .inr h2⟩
      | some x =>
        by_cases hx : x = joinS m.1
        · subst hx
          have hs : collGo t p (m :: r) L = collGo t p r L := by
            rw [collGo, if_neg hb]; simp only [hl, if_true]
          rw [hs]
          rcases ih _ _ (hT.same hl) hP2 with h | ⟨h1, h2 | h2⟩
          · exact .inl h
          · obtain ⟨m', h3, h4⟩ := h2
            exact .inr ⟨h1, .inl ⟨m', by simp [h3], h4⟩⟩
          · exact .inr ⟨h1, .inr h2⟩
        · have hs : collGo t p (m :: r) L = none := by
            rw [collGo, if_neg hb]; simp only [hl, if_neg hx]
          obtain ⟨m', h3, h4, h5⟩ := (hT.look _ _).1 hl
          exact .inr ⟨hs, .inr ⟨m', by simp [h3], m, by simp, h4, by rw [h5]; exact hx⟩⟩

/-- collect, as a table of the set of messages. -/
theorem collF_spec (m0 : Msg) (r : List Msg) (hv : ∀ m ∈ m0 :: r, validF m.2 = true) :
    (∃ L, collF (m0 :: r) = (0, L, m0.2) ∧ TabOf L (m0 :: r) ∧ (∀ m ∈ m0 :: r, m.2.2.1 = m0.2.2.1 ∧ m.2.2.2 = m0.2.2.2) ∧ ¬ Conf (m0 :: r)) ∨ (collF (m0 :: r) = (34, [], (0, 0, 0)) ∧ Conf (m0 :: r)) := by
  have hva : (m0 :: r).all (fun m => validF m.2) = true := List.all_eq_true.2 hv
  have hc : collF (m0 :: r) = collE m0.2 (collGo m0.2.2.1 m0.2.2.2 (m0 :: r) []) := collF_ok rfl hva
  rw [hc]
  rcases collGo_spec m0.2.2.1 m0.2.2.2 (m0 :: r) [] [] TabOf.nil (by simp) with ⟨L, h1, h2, h3⟩ | ⟨h1, h2⟩
  · rw [List.nil_append] at h2 h3
    left
    refine ⟨L, by rw [h1]; rfl, h2, h3, ?_⟩
    rintro ⟨m, hm, m', hm', h4 | h4 | ⟨h4, h5⟩⟩
    · exact h4 ((h3 m hm).1.trans (h3 m' hm').1.symm)
    · exact h4 ((h3 m hm).2.trans (h3 m' hm').2.symm)
    · have e1 := (h2.look _ _).2 ⟨m, hm, rfl, rfl⟩
      have e2 := (h2.look _ _).2 ⟨m', hm', rfl, rfl⟩
      rw [h4, e2] at e1
      exact h5 (Option.some.inj e1).symm
  · right
    refine ⟨by rw [h1]; rfl, ?_⟩
    rw [List.nil_append] at h2
    rcases h2 with ⟨m, hm, h3⟩ | ⟨m, hm, m', hm', h3⟩
    · refine ⟨m, hm, m0, by simp, ?_⟩
      rcases h3 with h3 | h3
      · exact .inl h3
      · exact .inr (.inl h3)
    · exact ⟨m, hm, m', hm', .inr (.inr h3)⟩

theorem collF_inv {ms : List Msg} {m : Msg} (hm : m ∈ ms) (hv : validF m.2 = false) : collF ms = (1, [], (0, 0, 0)) := collF_bad hm hv

theorem valid_all_or (ms : List Msg) : (∀ m ∈ ms, validF m.2 = true) ∨ ∃ m ∈ ms, validF m.2 = false := by
  by_cases h : ∀ m ∈ ms, validF m.2 = true
  · exact .inl h
  · right
    obtain ⟨m, h⟩ := Classical.not_forall.1 h
    obtain ⟨hm, h⟩ := Classical.not_imp.1 h
    exact ⟨m, hm, by simpa using h⟩

theorem look_keys {L : Tab} (k : Int) : k ∈ L.map (·.1) ↔ (lookL L k).isSome = true := by
  rw [List.mem_map]
  constructor
  · rintro ⟨x, hx, rfl⟩
    cases h : lookL L x.1 with
    | some y => rfl
    | none => exact absurd rfl (lookL_none' h x hx)
  · intro h
    obtain ⟨x, hx⟩ := Option.isSome_iff_exists.1 h
    exact ⟨_, lookL_mem hx, rfl⟩

theorem keys_perm {L L' : Tab} (h : (L.map (·.1)).Nodup) (h' : (L'.map (·.1)).Nodup) (e : ∀ k, lookL L k = lookL L' k) : (L.map (·.1)).Perm (L'.map (·.1)) :=
  (List.perm_ext_iff_of_nodup h h').2 fun k => by rw [look_keys, look_keys, e]

theorem vals_eq {L : Tab} (h : (L.map (·.1)).Nodup) : L.map (·.2) = (L.map (·.1)).map (fun k => (lookL L k).getD []) := by
  rw [List.map_map]
  refine List.map_congr_left fun x hx => ?_
  obtain ⟨j, hj⟩ := List.mem_iff_getElem?.1 hx
  simp [lookL_of h hj]

theorem flat_perm {xs ys : List Int} (f : Int → List Int) (h : xs.Perm ys) : ((xs.map f).flatten).length = ((ys.map f).flatten).length := by
  rw [List.length_flatten, List.length_flatten]
  exact ((h.map f).map List.length).sum_nat

theorem sizeL_congr {L L' : Tab} (h : (L.map (·.1)).Nodup) (h' : (L'.map (·.1)).Nodup) (e : ∀ k, lookL L k = lookL L' k) : sizeL L = sizeL L' := by
  unfold sizeL
  rw [vals_eq h, vals_eq h', flat_perm _ (keys_perm h h' e)]
  simp only [e]

theorem payL_congr {L L' : Tab} (e : ∀ k, lookL L k = lookL L' k) : payL L = payL L' := by
  unfold payL; simp only [e]

theorem sizeL_pay {L : Tab} (h : (L.map (·.1)).Nodup) (hk : ∀ x ∈ L, 0 ≤ x.1 ∧ x.1 < 16) : sizeL L = (payL L).length := by
  have h1 := pay_sorted L h hk (List.Perm.refl _)
  rw [← h1, flat_perm _ (List.mergeSort_perm _ _), ← vals_eq h]
  rfl

/-- The same set of messages: the same answers. -/
theorem set_same {ms ms' : List Msg} (h : ∀ m, m ∈ ms ↔ m ∈ ms') : joinF ms = joinF ms' ∧ missF ms = missF ms' := by
  cases ms with
  | nil =>
    cases ms' with
    | nil => exact ⟨rfl, rfl⟩
    | cons m r => exact absurd ((h m).2 (by simp)) (by simp)
  | cons m0 r =>
    cases ms' with
    | nil => exact absurd ((h m0).1 (by simp)) (by simp)
    | cons m0' r' =>
      rcases valid_all_or (m0 :: r) with hv | ⟨m, hm, hv⟩
      · have hv' : ∀ m ∈ m0' :: r', validF m.2 = true := fun m hm => hv m ((h m).2 hm)
        rcases collF_spec m0 r hv with ⟨L, c1, t1, p1, n1⟩ | ⟨c1, f1⟩
        · rcases collF_spec m0' r' hv' with ⟨L', c2, t2, p2, n2⟩ | ⟨c2, f2⟩
          · have hk : ∀ k, lookL L k = lookL L' k := fun k => by
              apply Option.ext
              intro x
              rw [t1.look, t2.look]
              exact ⟨fun ⟨m, hm, e⟩ => ⟨m, (h m).1 hm, e⟩, fun ⟨m, hm, e⟩ => ⟨m, (h m).2 hm, e⟩⟩
            have hh := p1 m0' ((h m0').2 (by simp))
            have hlen : L.length = L'.length := by
              have := (keys_perm t1.nd t2.nd hk).length_eq
              simpa using this
            unfold joinF missF
            rw [c1, c2]
            simp only [ne_eq, not_true_eq_false, if_false]
            unfold joinE missGo
            rw [hlen, sizeL_congr t1.nd t2.nd hk, payL_congr hk, hh.1, hh.2]
            simp only [hk]
            exact ⟨trivial, trivial⟩
          · obtain ⟨m, hm, m', hm', hc⟩ := f2
            exact absurd ⟨m, (h m).2 hm, m', (h m').2 hm', hc⟩ n1
        · rcases collF_spec m0' r' hv' with ⟨L', c2, t2, p2, n2⟩ | ⟨c2, f2⟩
          · obtain ⟨m, hm, m', hm', hc⟩ := f1
            exact absurd ⟨m, (h m).1 hm, m', (h m').1 hm', hc⟩ n2
          · unfold joinF missF
            rw [c1, c2]
            exact ⟨rfl, rfl⟩
      · have c1 := collF_bad hm hv
        have c2 := collF_bad ((h m).1 hm) hv
        unfold joinF missF
        rw [c1, c2]
        exact ⟨rfl, rfl⟩

end Go.Proofs.Ytifgpjhodajccaa
