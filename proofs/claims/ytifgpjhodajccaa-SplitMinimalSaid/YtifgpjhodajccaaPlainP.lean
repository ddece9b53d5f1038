/-
  Plain: the bits of Best are the fewest, for payloads of at most 255 bytes. No condition.
-/
import Derived.Test.YtifgpjhodajccaaPlainA
namespace Go.Proofs.Ytifgpjhodajccaa

/-- A segment of a mode may reach from a place to another. -/
def reach (bs : List Int) (m a e : Nat) : Prop := a < e ∧ e ≤ bs.length ∧ ∀ i, a ≤ i → i < e → fitsM m (bs.getD i 0) = true

def costF (m : Nat) (P : Nat → Pl) (e : Nat) : Int := (packF m).full * ((e / (packF m).unit : Nat) : Int) + (P e).bits
def valF (m cl : Nat) (P : Nat → Pl) (a e : Nat) : Int := headF m cl + sizeF (packF m) (e - a) + (P e).bits

theorem worse_le {m : Nat} {P : Nat → Pl} {a b : Nat} (h : worseF (packF m) P a b = true) : costF m P b ≤ costF m P a := by
  unfold worseF at h
  unfold costF
  simp only [Bool.or_eq_true, Bool.and_eq_true, decide_eq_true_eq] at h
  omega
theorem worse_not {m : Nat} {P : Nat → Pl} {a b : Nat} (h : worseF (packF m) P a b = false) : costF m P a ≤ costF m P b := by
  unfold worseF at h
  unfold costF
  simp only [Bool.or_eq_false_iff, decide_eq_false_iff_not] at h
  omega

theorem unit_pos {m : Nat} (hm : isMode m) : 0 < (packF m).unit ∧ (packF m).unit ≤ 3 := by
  rcases hm with rfl | rfl | rfl <;> decide

theorem size_shift {m : Nat} (hm : isMode m) {a e f : Nat} (he : a < e) (hf : a < f) (h : e % (packF m).unit = f % (packF m).unit) :
    sizeF (packF m) (e - a) - (packF m).full * ((e / (packF m).unit : Nat) : Int) = sizeF (packF m) (f - a) - (packF m).full * ((f / (packF m).unit : Nat) : Int) := by
  unfold sizeF
  rcases hm with rfl | rfl | rfl
  · have e1 : (packF 1).unit = 3 := rfl
    have e2 : (packF 1).full = 10 := rfl
    simp only [e1, e2] at h ⊢
    rw [show (e - a) % 3 = (f - a) % 3 by omega]
    omega
  · have e1 : (packF 2).unit = 2 := rfl
    have e2 : (packF 2).full = 11 := rfl
    simp only [e1, e2] at h ⊢
    rw [show (e - a) % 2 = (f - a) % 2 by omega]
    omega
  · have e1 : (packF 4).unit = 1 := rfl
    have e2 : (packF 4).full = 8 := rfl
    simp only [e1, e2, Nat.mod_one] at h ⊢
    omega

theorem val_le {m cl : Nat} (hm : isMode m) {P : Nat → Pl} {a e f : Nat} (he : a < e) (hf : a < f) (h : e % (packF m).unit = f % (packF m).unit) (hc : costF m P f ≤ costF m P e) : valF m cl P a f ≤ valF m cl P a e := by
  have := size_shift hm he hf h
  unfold valF
  unfold costF at hc
  omega

theorem dropWhile_head {f : Nat → Bool} : ∀ {l : List Nat} {x : Nat} {t : List Nat}, l.dropWhile f = x :: t → f x = false
  | [], _, _, h => by cases h
  | y :: r, x, t, h => by
    rw [List.dropWhile_cons] at h
    split at h
    · exact dropWhile_head h
    · rename_i hy
      cases h
      simpa using hy

theorem popB_pre (f : Nat → Bool) (q : List Nat) : ∃ s, q = popB f q ++ s := by
  refine ⟨(q.reverse.takeWhile f).reverse, ?_⟩
  unfold popB
  rw [← List.reverse_append, List.takeWhile_append_dropWhile, List.reverse_reverse]

theorem popB_nilF {f : Nat → Bool} {q : List Nat} (h : popB f q = []) : ∀ x ∈ q, f x = true := by
  unfold popB at h
  rw [List.reverse_eq_nil_iff] at h
  intro x hx
  exact dropWhile_nil h x (List.mem_reverse.2 hx)

theorem popB_lastF {f : Nat → Bool} {q : List Nat} {g : Nat} {r : List Nat} (h : popB f q = g :: r) : ∃ l ∈ q, f l = false := by
  unfold popB at h
  cases hd : q.reverse.dropWhile f with
  | nil => rw [hd] at h; simp at h
  | cons x t =>
    refine ⟨x, ?_, dropWhile_head hd⟩
    have : x ∈ q.reverse.dropWhile f := by rw [hd]; simp
    exact List.mem_reverse.1 ((List.dropWhile_sublist f).subset this)

theorem get_set_same (W : Wq) {k : Nat} (hk : k < 3) (q : List Nat) : (W.set k q).get k = q := by
  unfold Wq.set Wq.get
  rcases (show k = 0 ∨ k = 1 ∨ k = 2 by omega) with rfl | rfl | rfl <;> simp
theorem get_set_other (W : Wq) {j k : Nat} (hj : j < 3) (hk : k < 3) (h : j ≠ k) (q : List Nat) : (W.set k q).get j = W.get j := by
  unfold Wq.set Wq.get
  rcases (show k = 0 ∨ k = 1 ∨ k = 2 by omega) with rfl | rfl | rfl <;> rcases (show j = 0 ∨ j = 1 ∨ j = 2 by omega) with rfl | rfl | rfl <;> simp at *
theorem set_get (W : Wq) {k : Nat} (hk : k < 3) : W.set k (W.get k) = W := by
  unfold Wq.set Wq.get
  rcases (show k = 0 ∨ k = 1 ∨ k = 2 by omega) with rfl | rfl | rfl <;> simp

theorem nil_mem (k e : Nat) : ¬ e ∈ Wq.nil.get k := by
  unfold Wq.get Wq.nil
  (repeat' split) <;> simp

structure InvW (bs : List Int) (m a : Nat) (P : Nat → Pl) (W : Wq) : Prop where
  mem : ∀ k e, k < 3 → e ∈ W.get k → reach bs m a e ∧ e % (packF m).unit = k
  front : ∀ e, reach bs m a e → ∃ f q, W.get (e % (packF m).unit) = f :: q ∧ costF m P f ≤ costF m P e

theorem InvW.congr {bs : List Int} {m a : Nat} {P P' : Nat → Pl} {W : Wq} (hm : isMode m) (h : InvW bs m a P W) (he : ∀ e, a < e → P e = P' e) : InvW bs m a P' W := by
  refine ⟨h.mem, fun e hr => ?_⟩
  obtain ⟨f, q, h1, h2⟩ := h.front e hr
  have hu := unit_pos hm
  have hf := (h.mem (e % (packF m).unit) f (by have := Nat.mod_lt e hu.1; omega) (by rw [h1]; simp)).1
  refine ⟨f, q, h1, ?_⟩
  unfold costF at *
  rw [← he f hf.1, ← he e hr.1]
  exact h2

theorem reach_cons {bs : List Int} {m a e : Nat} (hfit : fitsM m (bs.getD a 0) = true) (h : reach bs m (a + 1) e) : reach bs m a e :=
  ⟨by have := h.1; omega, h.2.1, fun i hi hie => by
    rcases Nat.eq_or_lt_of_le hi with rfl | h1
    · exact hfit
    · exact h.2.2 i h1 hie⟩

theorem reach_split {bs : List Int} {m a e : Nat} (h : reach bs m a e) : e = a + 1 ∨ reach bs m (a + 1) e := by
  have := h.1
  rcases Nat.eq_or_lt_of_le (show a + 1 ≤ e by omega) with h1 | h1
  · exact .inl h1.symm
  · exact .inr ⟨h1, h.2.1, fun i hi hie => h.2.2 i (by omega) hie⟩

theorem InvW.push {bs : List Int} {m a : Nat} {P : Nat → Pl} {W : Wq} (hm : isMode m) (h : InvW bs m (a + 1) P W) (hfit : fitsM m (bs.getD a 0) = true) (ha : a < bs.length) : InvW bs m a P (pushF m P (a + 1) W) := by
  have hu := unit_pos hm
  have hk0 : (a + 1) % (packF m).unit < 3 := by have := Nat.mod_lt (a + 1) hu.1; omega
  have hnew : reach bs m a (a + 1) := ⟨by omega, by omega, fun i h1 h2 => (show i = a by omega) ▸ hfit⟩
  unfold pushF
  constructor
  · intro k e hk he
    by_cases hkk : k = (a + 1) % (packF m).unit
    · subst hkk
      rw [get_set_same _ hk] at he
      rcases List.mem_append.1 he with he | he
      · have := h.mem _ e hk (mem_popB he)
        exact ⟨reach_cons hfit this.1, this.2⟩
      · simp at he; subst he
        exact ⟨hnew, rfl⟩
    · rw [get_set_other _ hk hk0 hkk] at he
      have := h.mem k e hk he
      exact ⟨reach_cons hfit this.1, this.2⟩
  · intro e hr
    have hke : e % (packF m).unit < 3 := by have := Nat.mod_lt e hu.1; omega
    by_cases hkk : e % (packF m).unit = (a + 1) % (packF m).unit
    · rw [hkk, get_set_same _ hk0]
      cases hq : popB (fun x => worseF (packF m) P x (a + 1)) (W.get ((a + 1) % (packF m).unit)) with
      | nil =>
        refine ⟨a + 1, [], rfl, ?_⟩
        rcases reach_split hr with rfl | hr'
        · exact Int.le_refl _
        · obtain ⟨f, q, h1, h2⟩ := h.front e hr'
          rw [hkk] at h1
          have := popB_nilF hq f (by rw [h1]; simp)
          exact Int.le_trans (worse_le this) h2
      | cons g r =>
        refine ⟨g, r ++ [a + 1], rfl, ?_⟩
        obtain ⟨s, hs⟩ := popB_pre (fun x => worseF (packF m) P x (a + 1)) (W.get ((a + 1) % (packF m).unit))
        rw [hq] at hs
        have hfr : ∀ x, reach bs m (a + 1) x → x % (packF m).unit = (a + 1) % (packF m).unit → costF m P g ≤ costF m P x := by
          intro x hx hxk
          obtain ⟨f, q, h1, h2⟩ := h.front x hx
          rw [hxk, hs] at h1
          cases h1
          exact h2
        rcases reach_split hr with rfl | hr'
        · obtain ⟨l, hl, hw⟩ := popB_lastF hq
          have hml := h.mem _ l hk0 hl
          exact Int.le_trans (hfr l hml.1 hml.2) (worse_not hw)
        · exact hfr e hr' hkk
    · rw [get_set_other _ hke hk0 hkk]
      rcases reach_split hr with rfl | hr'
      · exact absurd rfl hkk
      · exact h.front e hr'

theorem trim_id {lim a n : Nat} {q : List Nat} (hq : ∀ x ∈ q, x ≤ n) (hl : n ≤ lim) : trimQ lim a q = q := by
  unfold trimQ
  cases q with
  | nil => rfl
  | cons x t =>
    have := hq x (by simp)
    rw [List.dropWhile_cons, if_neg]
    simp
    omega

theorem better_bits (p q : Pl) : (if betterF p q then p else q).bits ≤ p.bits ∧ (if betterF p q then p else q).bits ≤ q.bits ∧ ((if betterF p q then p else q).bits = p.bits ∨ (if betterF p q then p else q).bits = q.bits) := by
  by_cases h : betterF p q = true
  · rw [if_pos h]
    refine ⟨Int.le_refl _, ?_, .inl rfl⟩
    unfold betterF at h
    by_cases e : p.bits ≠ q.bits
    · rw [if_pos e] at h; simp at h; omega
    · omega
  · rw [if_neg h]
    refine ⟨?_, Int.le_refl _, .inr rfl⟩
    unfold betterF at h
    by_cases e : p.bits ≠ q.bits
    · rw [if_pos e] at h; simp at h; omega
    · omega

theorem chooseK_bits {bs : List Int} {m cl a : Nat} {P : Nat → Pl} {W : Wq} {best : Pl} (hm : isMode m) (h : InvW bs m a P W) (hl : bs.length ≤ limF m cl) {k : Nat} (hk : k < 3) :
    (chooseK m cl P a k (W, best)).1 = W ∧ (chooseK m cl P a k (W, best)).2.bits ≤ best.bits ∧ (∀ e, reach bs m a e → e % (packF m).unit = k → (chooseK m cl P a k (W, best)).2.bits ≤ valF m cl P a e) ∧
    ((chooseK m cl P a k (W, best)).2.bits = best.bits ∨ ∃ e, reach bs m a e ∧ (chooseK m cl P a k (W, best)).2.bits = valF m cl P a e) := by
  have ht : trimQ (limF m cl) a (W.get k) = W.get k := trim_id (n := bs.length) (fun x hx => (h.mem k x hk hx).1.2.1) hl
  unfold chooseK
  simp only [ht, set_get W hk, true_and]
  cases hq : W.get k with
  | nil =>
    unfold candF
    refine ⟨Int.le_refl _, fun e hr he => ?_, .inl rfl⟩
    obtain ⟨f, q, h1, _⟩ := h.front e hr
    rw [he, hq] at h1
    cases h1
  | cons f q =>
    have hf := h.mem k f hk (by rw [hq]; simp)
    unfold candF
    simp only
    have hb := better_bits ⟨headF m cl + sizeF (packF m) (f - a) + (P f).bits, (P f).segs + 1, ((f - a : Nat) : Int), m⟩ best
    refine ⟨hb.2.1, fun e hr he => ?_, ?_⟩
    · obtain ⟨f', q', h1, h2⟩ := h.front e hr
      rw [he, hq] at h1
      cases h1
      exact Int.le_trans hb.1 (val_le hm hr.1 hf.1.1 (he.trans hf.2.symm) h2)
    · rcases hb.2.2 with h1 | h1
      · exact .inr ⟨f, hf.1, h1⟩
      · exact .inl h1

theorem chooseF_bits {bs : List Int} {m cl a : Nat} {P : Nat → Pl} {W : Wq} {best : Pl} (hm : isMode m) (h : InvW bs m a P W) (hl : bs.length ≤ limF m cl) :
    (chooseF m cl P a (W, best)).1 = W ∧ (chooseF m cl P a (W, best)).2.bits ≤ best.bits ∧ (∀ e, reach bs m a e → (chooseF m cl P a (W, best)).2.bits ≤ valF m cl P a e) ∧
    ((chooseF m cl P a (W, best)).2.bits = best.bits ∨ ∃ e, reach bs m a e ∧ (chooseF m cl P a (W, best)).2.bits = valF m cl P a e) := by
  unfold chooseF
  obtain ⟨a1, a2, a3, a4⟩ := chooseK_bits (best := best) hm h hl (k := 0) (by omega)
  have e1 : chooseK m cl P a 0 (W, best) = (W, (chooseK m cl P a 0 (W, best)).2) := Prod.ext a1 rfl
  rw [e1]
  generalize (chooseK m cl P a 0 (W, best)).2 = b1 at *
  obtain ⟨c1, c2, c3, c4⟩ := chooseK_bits (best := b1) hm h hl (k := 1) (by omega)
  have e2 : chooseK m cl P a 1 (W, b1) = (W, (chooseK m cl P a 1 (W, b1)).2) := Prod.ext c1 rfl
  rw [e2]
  generalize (chooseK m cl P a 1 (W, b1)).2 = b2 at *
  obtain ⟨d1, d2, d3, d4⟩ := chooseK_bits (best := b2) hm h hl (k := 2) (by omega)
  generalize chooseK m cl P a 2 (W, b2) = b3 at *
  refine ⟨d1, by omega, fun e hr => ?_, ?_⟩
  · have hu := unit_pos hm
    have hke := Nat.mod_lt e hu.1
    rcases (show e % (packF m).unit = 0 ∨ e % (packF m).unit = 1 ∨ e % (packF m).unit = 2 by omega) with hk | hk | hk
    · have := a3 e hr hk; omega
    · have := c3 e hr hk; omega
    · exact d3 e hr hk
  · rcases d4 with d4 | d4
    · rcases c4 with c4 | ⟨e, hr, c4⟩
      · rcases a4 with a4 | ⟨e, hr, a4⟩
        · exact .inl (by omega)
        · exact .inr ⟨e, hr, by omega⟩
      · exact .inr ⟨e, hr, by omega⟩
    · exact .inr d4

theorem modeF_bits {bs : List Int} {m cl a : Nat} {P : Nat → Pl} {W : Wq} {best : Pl} (hm : isMode m) (h : InvW bs m (a + 1) P W) (ha : a < bs.length) (hl : bs.length ≤ limF m cl) :
    InvW bs m a P (modeF m cl (bs.getD a 0) P a (W, best)).1 ∧ (modeF m cl (bs.getD a 0) P a (W, best)).2.bits ≤ best.bits ∧ (∀ e, reach bs m a e → (modeF m cl (bs.getD a 0) P a (W, best)).2.bits ≤ valF m cl P a e) ∧
    ((modeF m cl (bs.getD a 0) P a (W, best)).2.bits = best.bits ∨ ∃ e, reach bs m a e ∧ (modeF m cl (bs.getD a 0) P a (W, best)).2.bits = valF m cl P a e) := by
  unfold modeF
  by_cases hfit : fitsM m (bs.getD a 0) = true
  · rw [if_pos hfit]
    have hp := h.push hm hfit ha
    obtain ⟨c1, c2, c3, c4⟩ := chooseF_bits (best := best) hm hp hl
    exact ⟨by rw [c1]; exact hp, c2, c3, c4⟩
  · rw [if_neg hfit]
    have hno : ∀ e, ¬ reach bs m a e := fun e hr => hfit (hr.2.2 a (Nat.le_refl _) hr.1)
    exact ⟨⟨(fun k e hk he => absurd he (nil_mem k e)), fun e hr => absurd hr (hno e)⟩, Int.le_refl _, fun e hr => absurd hr (hno e), .inl rfl⟩

/-- The fewest bits from each place on. -/
structure Opt (cl : Nat) (bs : List Int) (B : Nat → Int) : Prop where
  zero : B bs.length = 0
  le : ∀ a m e, isMode m → reach bs m a e → B a ≤ headF m cl + sizeF (packF m) (e - a) + B e
  ex : ∀ a, a < bs.length → ∃ m e, isMode m ∧ reach bs m a e ∧ B a = headF m cl + sizeF (packF m) (e - a) + B e

structure InvB (cl : Nat) (bs : List Int) (a : Nat) (s : Bst) : Prop where
  w1 : InvW bs 1 a (planAt s.ps a) s.w1
  w2 : InvW bs 2 a (planAt s.ps a) s.w2
  w4 : InvW bs 4 a (planAt s.ps a) s.w4
  zero : (planAt s.ps a bs.length).bits = 0
  le : ∀ b m e, a ≤ b → isMode m → reach bs m b e → (planAt s.ps a b).bits ≤ valF m cl (planAt s.ps a) b e
  ex : ∀ b, a ≤ b → b < bs.length → ∃ m e, isMode m ∧ reach bs m b e ∧ (planAt s.ps a b).bits = valF m cl (planAt s.ps a) b e

theorem lim_255 {m cl : Nat} (hc : cl < 3) (hm : isMode m) : 255 ≤ limF m cl := by
  rcases hm with rfl | rfl | rfl <;> rcases (show cl = 0 ∨ cl = 1 ∨ cl = 2 by omega) with rfl | rfl | rfl <;> decide

theorem stepB_inv {cl : Nat} (hc : cl < 3) {bs : List Int} (hn : bs.length ≤ 255) {a : Nat} (ha : a < bs.length) {s : Bst} (h : InvB cl bs (a + 1) s) (hok : okB bs.length (a + 1) s) : InvB cl bs a (stepB cl (bs.getD a 0) a s) := by
  have hok' := (stepB_ok (c := bs.getD a 0) hc ha (by omega) hok).2.1 a (Nat.le_refl _) (by omega)
  have hl : ∀ m, isMode m → bs.length ≤ limF m cl := fun m hm => Nat.le_trans hn (lim_255 hc hm)
  obtain ⟨a1, a2, a3, a4⟩ := modeF_bits (cl := cl) (best := ⟨maxI, 0, 0, 0⟩) (.inl rfl) h.w1 ha (hl 1 (.inl rfl))
  have hstep : stepB cl (bs.getD a 0) a s = ⟨(modeF 4 cl (bs.getD a 0) (planAt s.ps (a + 1)) a (s.w4, (modeF 2 cl (bs.getD a 0) (planAt s.ps (a + 1)) a (s.w2, (modeF 1 cl (bs.getD a 0) (planAt s.ps (a + 1)) a (s.w1, ⟨maxI, 0, 0, 0⟩)).2)).2)).2 :: s.ps, (modeF 1 cl (bs.getD a 0) (planAt s.ps (a + 1)) a (s.w1, ⟨maxI, 0, 0, 0⟩)).1, (modeF 2 cl (bs.getD a 0) (planAt s.ps (a + 1)) a (s.w2, (modeF 1 cl (bs.getD a 0) (planAt s.ps (a + 1)) a (s.w1, ⟨maxI, 0, 0, 0⟩)).2)).1, (modeF 4 cl (bs.getD a 0) (planAt s.ps (a + 1)) a (s.w4, (modeF 2 cl (bs.getD a 0) (planAt s.ps (a + 1)) a (s.w2, (modeF 1 cl (bs.getD a 0) (planAt s.ps (a + 1)) a (s.w1, ⟨maxI, 0, 0, 0⟩)).2)).2)).1⟩ := rfl
  rw [hstep] at hok' ⊢
  clear hstep
  generalize modeF 1 cl (bs.getD a 0) (planAt s.ps (a + 1)) a (s.w1, ⟨maxI, 0, 0, 0⟩) = r1 at *
  obtain ⟨c1, c2, c3, c4⟩ := modeF_bits (cl := cl) (best := r1.2) (.inr (.inl rfl)) h.w2 ha (hl 2 (.inr (.inl rfl)))
  generalize modeF 2 cl (bs.getD a 0) (planAt s.ps (a + 1)) a (s.w2, r1.2) = r2 at *
  obtain ⟨d1, d2, d3, d4⟩ := modeF_bits (cl := cl) (best := r2.2) (.inr (.inr rfl)) h.w4 ha (hl 4 (.inr (.inr rfl)))
  generalize modeF 4 cl (bs.getD a 0) (planAt s.ps (a + 1)) a (s.w4, r2.2) = r4 at *
  have hP : ∀ e, a < e → planAt s.ps (a + 1) e = planAt (r4.2 :: s.ps) a e := fun e he => (planAt_cons _ _ _ _ he).symm
  have hPa : planAt (r4.2 :: s.ps) a a = r4.2 := by unfold planAt; rw [Nat.sub_self]; rfl
  have hv : ∀ m b e, a < e → valF m cl (planAt (r4.2 :: s.ps) a) b e = valF m cl (planAt s.ps (a + 1)) b e := fun m b e he => by unfold valF; rw [hP e he]
  rw [hPa] at hok'
  have hmax : r4.2.bits < maxI := by
    unfold okPl at hok'
    unfold maxI
    omega
  simp only at a2
  refine ⟨a1.congr (.inl rfl) hP, c1.congr (.inr (.inl rfl)) hP, d1.congr (.inr (.inr rfl)) hP, ?_, ?_, ?_⟩
  · show (planAt (r4.2 :: s.ps) a bs.length).bits = 0
    rw [← hP _ ha]; exact h.zero
  · intro b m e hb hm hr
    show (planAt (r4.2 :: s.ps) a b).bits ≤ valF m cl (planAt (r4.2 :: s.ps) a) b e
    rw [hv m b e (by have := hr.1; omega)]
    rcases Nat.eq_or_lt_of_le hb with rfl | hb
    · rw [hPa]
      rcases hm with rfl | rfl | rfl
      · have := a3 e hr; omega
      · have := c3 e hr; omega
      · exact d3 e hr
    · rw [← hP b hb]
      exact h.le b m e hb hm hr
  · intro b hb hbl
    show ∃ m e, isMode m ∧ reach bs m b e ∧ (planAt (r4.2 :: s.ps) a b).bits = valF m cl (planAt (r4.2 :: s.ps) a) b e
    rcases Nat.eq_or_lt_of_le hb with rfl | hb
    · rw [hPa]
      rcases d4 with d4 | ⟨e, hr, d4⟩
      · rcases c4 with c4 | ⟨e, hr, c4⟩
        · rcases a4 with a4 | ⟨e, hr, a4⟩
          · simp only at a4
            omega
          · exact ⟨1, e, .inl rfl, hr, by rw [hv _ _ _ hr.1]; omega⟩
        · exact ⟨2, e, .inr (.inl rfl), hr, by rw [hv _ _ _ hr.1]; omega⟩
      · exact ⟨4, e, .inr (.inr rfl), hr, by rw [hv _ _ _ hr.1]; exact d4⟩
    · obtain ⟨m, e, hm, hr, h1⟩ := h.ex b hb hbl
      exact ⟨m, e, hm, hr, by rw [← hP b hb, hv m b e (by have := hr.1; omega)]; exact h1⟩

theorem bstF_inv {cl : Nat} (hc : cl < 3) (bs : List Int) (hn : bs.length ≤ 255) : ∀ d, d ≤ bs.length → InvB cl bs (bs.length - d) (bstF cl bs d)
  | 0, _ => by
    have hno : ∀ m a e, bs.length ≤ a → ¬ reach bs m a e := fun m a e ha hr => by have := hr.1; have := hr.2.1; omega
    have hnil : ∀ m P, InvW bs m bs.length P Wq.nil := fun m P => ⟨(fun k e hk he => absurd he (nil_mem k e)), fun e hr => absurd hr (hno m _ e (Nat.le_refl _))⟩
    refine ⟨hnil _ _, hnil _ _, hnil _ _, ?_, fun b m e hb hm hr => absurd hr (hno m b e (by omega)), fun b hb hbl => by omega⟩
    simp [bstF, planAt, Pl.zero]
  | d + 1, h => by
    have ih := bstF_inv hc bs hn d (by omega)
    have ok := bstF_ok hc bs (by omega) d (by omega)
    have e : bs.length - d = bs.length - (d + 1) + 1 := by omega
    rw [e] at ih ok
    exact stepB_inv hc hn (by omega) ih ok

theorem bstF_opt {cl : Nat} (hc : cl < 3) (bs : List Int) (hn : bs.length ≤ 255) : ∃ B, Opt cl bs B ∧ B 0 = bitsF cl bs := by
  have h := bstF_inv hc bs hn bs.length (Nat.le_refl _)
  rw [Nat.sub_self] at h
  exact ⟨fun e => (planAt (bstF cl bs bs.length).ps 0 e).bits, ⟨h.zero, fun a m e hm hr => h.le a m e (Nat.zero_le _) hm hr, fun a ha => h.ex a (Nat.zero_le _) ha⟩, rfl⟩

end Go.Proofs.Ytifgpjhodajccaa
