/-
  Plain: the shares that runs.Quantize gives out of its heap are those that the reference gives by looking at all widths. No condition.
-/
import Derived.Test.YtcihombiijjndaaGreedy
namespace Go.Proofs.Ytcihombiijjndaa

theorem set_perm {α : Type} : ∀ (l : List α) (b : Nat) (v : α), b < l.length → (l.set b v).Perm (v :: l.eraseIdx b)
  | [], _, _, h => by simp at h
  | x :: l, 0, v, _ => by simp
  | x :: l, b + 1, v, h => by
    simp only [List.set_cons_succ, List.eraseIdx_cons_succ]
    exact ((set_perm l b v (by simpa using h)).cons x).trans (List.Perm.swap v x _)

theorem get_perm {α : Type} : ∀ (l : List α) (b : Nat) (h : b < l.length), l.Perm (l[b] :: l.eraseIdx b)
  | [], _, h => by simp at h
  | x :: l, 0, _ => by simp
  | x :: l, b + 1, h => by
    simp only [List.getElem_cons_succ, List.eraseIdx_cons_succ]
    exact ((get_perm l b (by simpa using h)).cons x).trans (List.Perm.swap _ x _)

def bestF (K : Nat → Int) : Nat → Nat → Nat → Nat
  | 0, _, b => b
  | f + 1, i, b => bestF K f (i + 1) (if K i < K b then i else b)

def keyF (S T : Int) (zs out : List Int) (i : Nat) : Int := S * out.getD i 0 - T * zs.getD i 0

def bestI (S T : Int) (zs out : List Int) : Nat := bestF (keyF S T zs out) (zs.length - 1) 1 0

def grF (S T : Int) (zs : List Int) : Nat → List Int → List Int
  | 0, out => out
  | r + 1, out => grF S T zs r (out.set (bestI S T zs out) (out.getD (bestI S T zs out) 0 + 1))

theorem bestF_spec (K : Nat → Int) : ∀ (f i b : Nat), b < i → (∀ j, j < i → K b < K j ∨ (K b = K j ∧ b ≤ j)) →
    bestF K f i b < i + f ∧ ∀ j, j < i + f → K (bestF K f i b) < K j ∨ (K (bestF K f i b) = K j ∧ bestF K f i b ≤ j)
  | 0, i, b, hb, h => ⟨hb, h⟩
  | f + 1, i, b, hb, h => by
    unfold bestF
    have := bestF_spec K f (i + 1) (if K i < K b then i else b) (by split <;> omega) (by
      intro j hj
      split
      · rename_i hlt
        by_cases e : j = i
        · subst e; right; exact ⟨rfl, Nat.le_refl _⟩
        · have := h j (by omega); omega
      · rename_i hlt
        by_cases e : j = i
        · subst e; omega
        · exact h j (by omega))
    rw [show i + 1 + f = i + (f + 1) by omega] at this
    exact this

def qOf (S T : Int) : Nat → List Int → List Int → List Sh
  | i, z :: zs, o :: out => ⟨i, o, S * (2 * o + 1) - 2 * T * z⟩ :: qOf S T (i + 1) zs out
  | _, _, _ => []

theorem qOf_mk (S T : Int) : ∀ (zs : List Int) (i : Nat), mkQ S T i zs = qOf S T i zs (List.replicate zs.length 1)
  | [], _ => rfl
  | z :: r, i => by
    simp only [mkQ, List.length_cons, List.replicate_succ, qOf, qOf_mk S T r]
    rw [show S * (2 * 1 + 1) = 3 * S by omega]

theorem qOf_length (S T : Int) : ∀ (zs out : List Int) (i : Nat), zs.length = out.length → (qOf S T i zs out).length = zs.length
  | [], [], _, _ => rfl
  | [], _ :: _, _, h => by simp at h
  | _ :: _, [], _, h => by simp at h
  | z :: zs, o :: out, i, h => by simp [qOf, qOf_length S T zs out (i + 1) (by simpa using h)]

theorem qOf_get (S T : Int) : ∀ (zs out : List Int) (i k : Nat), zs.length = out.length → k < zs.length →
    (qOf S T i zs out)[k]? = some ⟨(i + k : Nat), out.getD k 0, S * (2 * out.getD k 0 + 1) - 2 * T * zs.getD k 0⟩
  | [], _, _, _, _, hk => by simp at hk
  | _ :: _, [], _, _, h, _ => by simp at h
  | z :: zs, o :: out, i, 0, h, _ => by simp [qOf]
  | z :: zs, o :: out, i, k + 1, h, hk => by
    have := qOf_get S T zs out (i + 1) k (by simpa using h) (by simpa using hk)
    simp only [qOf, List.getElem?_cons_succ, this]
    simp
    omega

theorem qOf_set (S T : Int) : ∀ (zs out : List Int) (i b : Nat) (v : Int), zs.length = out.length → b < zs.length →
    qOf S T i zs (out.set b v) = (qOf S T i zs out).set b ⟨(i + b : Nat), v, S * (2 * v + 1) - 2 * T * zs.getD b 0⟩
  | [], _, _, _, _, _, hk => by simp at hk
  | _ :: _, [], _, _, _, h, _ => by simp at h
  | z :: zs, o :: out, i, 0, v, h, _ => by simp [qOf]
  | z :: zs, o :: out, i, b + 1, v, h, hk => by
    have := qOf_set S T zs out (i + 1) b v (by simpa using h) (by simpa using hk)
    simp only [List.set_cons_succ, qOf, this]
    rw [show i + 1 + b = i + (b + 1) by omega]
    simp

theorem mem_qOf {S T : Int} {zs out : List Int} (h : zs.length = out.length) {s : Sh} (hs : s ∈ qOf S T 0 zs out) :
    ∃ b, b < zs.length ∧ s = ⟨b, out.getD b 0, S * (2 * out.getD b 0 + 1) - 2 * T * zs.getD b 0⟩ := by
  obtain ⟨b, hb⟩ := List.mem_iff_getElem?.1 hs
  have hl : b < zs.length := by
    rcases Nat.lt_or_ge b zs.length with h1 | h1
    · exact h1
    · rw [List.getElem?_eq_none (by rw [qOf_length _ _ _ _ _ h]; exact h1)] at hb; cases hb
  rw [qOf_get S T zs out 0 b h hl] at hb
  refine ⟨b, hl, ?_⟩
  simp at hb
  exact hb.symm

theorem fold_set : ∀ (q : List Sh) (acc : List Int) (k : Nat) (v : Int), k < acc.length → (∀ s ∈ q, s.ix.toNat = k → s.md = v) → ((∃ s ∈ q, s.ix.toNat = k) ∨ acc[k]? = some v) →
    (q.foldl (fun out s => out.set s.ix.toNat s.md) acc)[k]? = some v
  | [], acc, k, v, _, _, h => by
    rcases h with ⟨s, hs, _⟩ | h
    · simp at hs
    · simpa using h
  | s :: q, acc, k, v, hk, hall, h => by
    rw [List.foldl_cons]
    refine fold_set q _ k v (by simpa using hk) (fun t ht => hall t (by simp [ht])) ?_
    by_cases e : s.ix.toNat = k
    · right
      rw [e, List.getElem?_set_self hk, hall s (by simp) e]
    · rcases h with ⟨t, ht, et⟩ | h
      · simp only [List.mem_cons] at ht
        rcases ht with rfl | ht
        · exact absurd et e
        · exact .inl ⟨t, ht, et⟩
      · right; rw [List.getElem?_set_ne e]; exact h

theorem outF_of_perm {S T : Int} {zs out : List Int} {q : List Sh} (h : zs.length = out.length) (hp : q.Perm (qOf S T 0 zs out)) : outF zs.length q = out := by
  have hlen : (outF zs.length q).length = zs.length := by
    unfold outF
    have : ∀ (q : List Sh) (acc : List Int), (q.foldl (fun out s => out.set s.ix.toNat s.md) acc).length = acc.length := by
      intro q
      induction q with
      | nil => intro acc; rfl
      | cons s q ih => intro acc; rw [List.foldl_cons, ih]; simp
    rw [this]; simp
  apply List.ext_getElem?
  intro k
  by_cases hk : k < zs.length
  · have hko : k < out.length := by omega
    rw [List.getElem?_eq_getElem hko]
    unfold outF
    refine fold_set q _ k out[k] (by simpa using hk) ?_ (.inl ?_)
    · intro s hs e
      obtain ⟨b, hb, rfl⟩ := mem_qOf h (hp.mem_iff.1 hs)
      simp at e
      subst e
      simp [hko]
    · exact ⟨_, hp.mem_iff.2 (List.mem_of_getElem? (qOf_get S T zs out 0 k h hk)), by simp⟩
  · rw [List.getElem?_eq_none (by omega), List.getElem?_eq_none (by omega)]

/-- The first share is the one that the reference finds best. -/
theorem root_best {S T : Int} {zs out : List Int} {q : List Sh} (h : zs.length = out.length) (h0 : 0 < zs.length) (hp : q.Perm (qOf S T 0 zs out)) (hh : HeapFrom 0 q) :
    bestI S T zs out < zs.length ∧ gt q 0 = ⟨bestI S T zs out, out.getD (bestI S T zs out) 0, S * (2 * out.getD (bestI S T zs out) 0 + 1) - 2 * T * zs.getD (bestI S T zs out) 0⟩ := by
  obtain ⟨hb, hspec⟩ := bestF_spec (keyF S T zs out) (zs.length - 1) 1 0 (by omega) (fun j hj => by
    obtain rfl : j = 0 := by omega
    right; exact ⟨rfl, Nat.le_refl _⟩)
  rw [show 1 + (zs.length - 1) = zs.length by omega] at hb hspec
  have hbI : bestF (keyF S T zs out) (zs.length - 1) 1 0 = bestI S T zs out := rfl
  rw [hbI] at hb hspec
  refine ⟨hb, ?_⟩
  have hql : q.length = zs.length := by rw [hp.length_eq, qOf_length _ _ _ _ _ h]
  obtain ⟨c, hc, ec⟩ := mem_qOf h (hp.mem_iff.1 (gt_mem (show 0 < q.length by omega)))
  have hmin : ∀ s ∈ q, le (gt q 0) s := by
    intro s hs
    obtain ⟨k, hk⟩ := List.mem_iff_getElem?.1 hs
    have hkl : k < q.length := by
      rcases Nat.lt_or_ge k q.length with h1 | h1
      · exact h1
      · rw [List.getElem?_eq_none h1] at hk; cases hk
    have := root_min hh k hkl
    rw [gt_some hkl] at hk
    cases hk
    exact this
  have h1 := hmin _ (hp.mem_iff.2 (List.mem_of_getElem? (qOf_get S T zs out 0 (bestI S T zs out) h hb)))
  have h2 := hspec c hc
  rw [ec] at h1 ⊢
  have key : c = bestI S T zs out := by
    unfold le at h1
    unfold keyF at h2
    simp only [Nat.zero_add] at h1
    have e1 : S * (2 * out.getD c 0 + 1) - 2 * T * zs.getD c 0 = 2 * (S * out.getD c 0 - T * zs.getD c 0) + S := by
      rw [Int.mul_add, Int.mul_one, Int.mul_sub, ← Int.mul_assoc, ← Int.mul_assoc, ← Int.mul_assoc, Int.mul_comm S 2]; omega
    have e2 : S * (2 * out.getD (bestI S T zs out) 0 + 1) - 2 * T * zs.getD (bestI S T zs out) 0 = 2 * (S * out.getD (bestI S T zs out) 0 - T * zs.getD (bestI S T zs out) 0) + S := by
      rw [Int.mul_add, Int.mul_one, Int.mul_sub, ← Int.mul_assoc, ← Int.mul_assoc, ← Int.mul_assoc, Int.mul_comm S 2]; omega
    rw [e1, e2] at h1
    omega
  rw [key]

theorem bump_perm {S T : Int} {zs out : List Int} {q : List Sh} (h : zs.length = out.length) (h0 : 0 < zs.length) (hp : q.Perm (qOf S T 0 zs out)) (hh : HeapFrom 0 q) :
    (bump q S).Perm (qOf S T 0 zs (out.set (bestI S T zs out) (out.getD (bestI S T zs out) 0 + 1))) := by
  obtain ⟨hb, hr⟩ := root_best h h0 hp hh
  generalize bestI S T zs out = b at *
  rw [qOf_set S T zs out 0 b _ h hb]
  have hQb : b < (qOf S T 0 zs out).length := by rw [qOf_length _ _ _ _ _ h]; exact hb
  have hget := qOf_get S T zs out 0 b h hb
  rw [List.getElem?_eq_getElem hQb] at hget
  have hget' := Option.some.inj hget
  refine List.Perm.trans ?_ (set_perm _ _ _ hQb).symm
  have hp2 := hp.trans (get_perm _ _ hQb)
  rw [hget'] at hp2
  cases q with
  | nil => have := hp.length_eq; simp at this; omega
  | cons r rest =>
    have hr' : r = ⟨b, out.getD b 0, S * (2 * out.getD b 0 + 1) - 2 * T * zs.getD b 0⟩ := by simpa [gt] using hr
    subst hr'
    simp only [Nat.zero_add] at hp2 ⊢
    have hrest := hp2.cons_inv
    unfold bump
    rw [hr]
    simp only [List.set_cons_zero]
    rw [show S * (2 * out.getD b 0 + 1) - 2 * T * zs.getD b 0 + 2 * S = S * (2 * (out.getD b 0 + 1) + 1) - 2 * T * zs.getD b 0 by
      have : S * (2 * (out.getD b 0 + 1) + 1) = S * (2 * out.getD b 0 + 1) + 2 * S := by
        rw [show 2 * (out.getD b 0 + 1) + 1 = (2 * out.getD b 0 + 1) + 2 by omega, Int.mul_add]; omega
      omega]
    exact hrest.cons _

theorem give_eq {S T : Int} {zs : List Int} (h0 : 0 < zs.length) : ∀ (r : Nat) (q : List Sh) (out : List Int), zs.length = out.length → q.Perm (qOf S T 0 zs out) → HeapFrom 0 q →
    outF zs.length (giveF S r q) = grF S T zs r out
  | 0, q, out, h, hp, _ => outF_of_perm h hp
  | r + 1, q, out, h, hp, hh => by
    have hql : q.length = zs.length := by rw [hp.length_eq, qOf_length _ _ _ _ _ h]
    unfold giveF grF
    refine give_eq h0 r _ _ (by simpa using h) ?_ (give_heap hh (by omega))
    exact (downF_perm _ _ _ (by simp [bump]; omega)).trans (bump_perm h h0 hp hh)

/-- What the program gives is what the reference gives. -/
theorem quant_eq (S T : Int) (zs : List Int) (h0 : 0 < zs.length) (r : Nat) :
    outF zs.length (giveF S r (initF (zs.length / 2) (mkQ S T 0 zs))) = grF S T zs r (List.replicate zs.length 1) := by
  refine give_eq h0 r _ _ (by simp) ?_ ?_
  · rw [← qOf_mk]; exact initF_perm _ _ (by rw [mkQ_length]; omega)
  · have := init_heap (zs.length / 2) (mkQ S T 0 zs) (by rw [mkQ_length]; omega) (by have := half_heap (mkQ S T 0 zs); rwa [mkQ_length] at this)
    exact this

end Go.Proofs.Ytcihombiijjndaa
