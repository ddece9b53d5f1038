/-
  Plain: the plans of Best are good: their numbers are small, the size of a first segment is at least 1 and at most what is left. No condition.
-/
import Derived.Test.YtifgpjhodajccaaModel
namespace Go.Proofs.Ytifgpjhodajccaa

/-- A plan of the rest from a place on is good. -/
def okPl (n at_ : Nat) (p : Pl) : Prop :=
  0 ≤ p.bits ∧ p.bits ≤ 28 * ((n : Int) - at_) ∧ 0 ≤ p.segs ∧ p.segs ≤ (n : Int) - at_ ∧ 0 ≤ p.size ∧ p.size ≤ (n : Int) - at_ ∧ (at_ < n → 1 ≤ p.size) ∧ 0 ≤ p.mode ∧ p.mode ≤ 4

def okQ (n at_ : Nat) (q : List Nat) : Prop := ∀ e ∈ q, at_ < e ∧ e ≤ n
def okW (n at_ : Nat) (W : Wq) : Prop := okQ n at_ W.q0 ∧ okQ n at_ W.q1 ∧ okQ n at_ W.q2
def okBest (n at_ : Nat) (p : Pl) : Prop := p = ⟨maxI, 0, 0, 0⟩ ∨ okPl n at_ p
def isMode (m : Nat) : Prop := m = 1 ∨ m = 2 ∨ m = 4

theorem size_bnd {m : Nat} (hm : isMode m) (len : Nat) : 0 ≤ sizeF (packF m) len ∧ sizeF (packF m) len ≤ 8 * (len : Int) := by
  unfold sizeF packF partF
  rcases hm with rfl | rfl | rfl
  · simp only [if_true]
    have : len % 3 = 0 ∨ len % 3 = 1 ∨ len % 3 = 2 := by omega
    rcases this with h | h | h <;> simp only [h] <;> simp <;> omega
  · simp only [show ¬ ((2 : Nat) = 1) by omega, if_true, if_false]
    have : len % 2 = 0 ∨ len % 2 = 1 := by omega
    rcases this with h | h <;> simp only [h] <;> simp <;> omega
  · simp only [show ¬ ((4 : Nat) = 1) by omega, show ¬ ((4 : Nat) = 2) by omega, if_false]
    simp [Nat.mod_one]
    omega

theorem head_bnd {m cl : Nat} (hc : cl < 3) : 12 ≤ headF m cl ∧ headF m cl ≤ 20 := by
  unfold headF countF
  repeat' split
  all_goals omega

theorem lim_pos {m cl : Nat} (hc : cl < 3) : 1 ≤ limF m cl ∧ limF m cl ≤ 65535 := by
  unfold limF countF
  have : cl = 0 ∨ cl = 1 ∨ cl = 2 := by omega
  rcases this with rfl | rfl | rfl <;> (repeat' split) <;> simp

theorem dropWhile_nil {f : Nat → Bool} : ∀ {l : List Nat}, l.dropWhile f = [] → ∀ x ∈ l, f x = true
  | [], _, x, h => nomatch h
  | y :: r, h, x, hx => by
    rw [List.dropWhile_cons] at h
    split at h
    · rename_i hy
      rcases List.mem_cons.1 hx with rfl | hx
      · exact hy
      · exact dropWhile_nil h x hx
    · cases h

theorem mem_popB {f : Nat → Bool} {q : List Nat} {x : Nat} (h : x ∈ popB f q) : x ∈ q := by
  unfold popB at h
  rw [List.mem_reverse] at h
  exact List.mem_reverse.1 ((List.dropWhile_sublist f).subset h)

theorem mem_trimQ {l a : Nat} {q : List Nat} {x : Nat} (h : x ∈ trimQ l a q) : x ∈ q := (List.dropWhile_sublist _).subset h

theorem okQ_mono {n a : Nat} {q : List Nat} (h : okQ n (a + 1) q) : okQ n a q := fun e he => by have := h e he; omega
theorem okW_mono {n a : Nat} {W : Wq} (h : okW n (a + 1) W) : okW n a W := ⟨okQ_mono h.1, okQ_mono h.2.1, okQ_mono h.2.2⟩
theorem okW_get {n a : Nat} {W : Wq} (h : okW n a W) (k : Nat) : okQ n a (W.get k) := by
  unfold Wq.get
  split
  · exact h.1
  split
  · exact h.2.1
  · exact h.2.2
theorem okW_set {n a : Nat} {W : Wq} (h : okW n a W) (k : Nat) {q : List Nat} (hq : okQ n a q) : okW n a (W.set k q) := by
  unfold Wq.set
  split
  · exact ⟨hq, h.2.1, h.2.2⟩
  split
  · exact ⟨h.1, hq, h.2.2⟩
  · exact ⟨h.1, h.2.1, hq⟩
theorem okW_nil (n a : Nat) : okW n a Wq.nil := ⟨fun _ h => (nomatch h), fun _ h => (nomatch h), fun _ h => (nomatch h)⟩

theorem push_ok {n a m : Nat} {P : Nat → Pl} {W : Wq} (h : okW n (a + 1) W) (ha : a < n) : okW n a (pushF m P (a + 1) W) := by
  refine okW_set (okW_mono h) _ ?_
  intro e he
  rw [List.mem_append] at he
  rcases he with he | he
  · have := okW_get h _ e (mem_popB he); omega
  · simp at he; omega

/-- The candidate's plan. -/
def cand (m cl : Nat) (P : Nat → Pl) (at_ e : Nat) : Pl := ⟨headF m cl + sizeF (packF m) (e - at_) + (P e).bits, (P e).segs + 1, ((e - at_ : Nat) : Int), m⟩

theorem cand_ok {n a m cl e : Nat} {P : Nat → Pl} (hm : isMode m) (hc : cl < 3) (he : a < e) (hen : e ≤ n) (hP : okPl n e (P e)) : okPl n a (cand m cl P a e) := by
  have h1 := size_bnd hm (e - a)
  have h2 := head_bnd (m := m) hc
  unfold okPl at hP
  have hm4 : m ≤ 4 := by unfold isMode at hm; omega
  unfold okPl cand
  simp only
  omega

theorem candF_ok {n a m cl : Nat} {P : Nat → Pl} (hm : isMode m) (hc : cl < 3) {q : List Nat} (hq : okQ n a q) (hP : ∀ e, a < e → e ≤ n → okPl n e (P e)) {best : Pl} (hb : okBest n a best) : okBest n a (candF m cl P a q best) := by
  unfold candF
  cases q with
  | nil => exact hb
  | cons e r =>
    simp only
    have := hq e (by simp)
    split
    · exact .inr (cand_ok hm hc this.1 this.2 (hP e this.1 this.2))
    · exact hb

theorem chooseK_ok {n a m cl : Nat} {P : Nat → Pl} (hm : isMode m) (hc : cl < 3) (hP : ∀ e, a < e → e ≤ n → okPl n e (P e)) {s : Wq × Pl} (hw : okW n a s.1) (hb : okBest n a s.2) (k : Nat) :
    okW n a (chooseK m cl P a k s).1 ∧ okBest n a (chooseK m cl P a k s).2 := by
  have hq : okQ n a (trimQ (limF m cl) a (s.1.get k)) := fun e he => okW_get hw k e (mem_trimQ he)
  exact ⟨okW_set hw k hq, candF_ok hm hc hq hP hb⟩

theorem chooseF_ok {n a m cl : Nat} {P : Nat → Pl} (hm : isMode m) (hc : cl < 3) (hP : ∀ e, a < e → e ≤ n → okPl n e (P e)) {s : Wq × Pl} (hw : okW n a s.1) (hb : okBest n a s.2) :
    okW n a (chooseF m cl P a s).1 ∧ okBest n a (chooseF m cl P a s).2 := by
  have h0 := chooseK_ok hm hc hP hw hb 0
  have h1 := chooseK_ok hm hc hP h0.1 h0.2 1
  exact chooseK_ok hm hc hP h1.1 h1.2 2

theorem modeF_ok {n a m cl : Nat} {c : Int} {P : Nat → Pl} (hm : isMode m) (hc : cl < 3) (ha : a < n) (hP : ∀ e, a < e → e ≤ n → okPl n e (P e)) {s : Wq × Pl} (hw : okW n (a + 1) s.1) (hb : okBest n a s.2) :
    okW n a (modeF m cl c P a s).1 ∧ okBest n a (modeF m cl c P a s).2 := by
  unfold modeF
  split
  · exact chooseF_ok hm hc hP (push_ok hw ha) hb
  · exact ⟨okW_nil _ _, hb⟩

/-- Behind the byte mode there is a plan. -/
theorem mode4_ok {n a cl : Nat} {c : Int} {P : Nat → Pl} (hc : cl < 3) (ha : a < n) (hn : n ≤ 5000) (hP : ∀ e, a < e → e ≤ n → okPl n e (P e)) {s : Wq × Pl} (hw : okW n (a + 1) s.1) (hb : okBest n a s.2) :
    okPl n a (modeF 4 cl c P a s).2 := by
  have hm : isMode 4 := .inr (.inr rfl)
  have hwp := push_ok (m := 4) (P := P) hw ha
  unfold modeF
  rw [if_pos (by unfold fitsM; simp)]
  have hk0 : okPl n a (chooseK 4 cl P a 0 (pushF 4 P (a + 1) s.1, s.2)).2 := by
    unfold chooseK
    simp only
    have hne : trimQ (limF 4 cl) a ((pushF 4 P (a + 1) s.1).get 0) ≠ [] := by
      have hu : (packF 4).unit = 1 := rfl
      have hg : (pushF 4 P (a + 1) s.1).get 0 = popB (fun x => worseF (packF 4) P x (a + 1)) (s.1.get 0) ++ [a + 1] := by
        unfold pushF
        rw [hu, Nat.mod_one]
        rfl
      rw [hg]
      unfold trimQ
      intro h0
      have hall := dropWhile_nil h0 (a + 1) (by simp)
      have := (lim_pos (m := 4) hc).1
      simp at hall
      omega
    unfold candF
    cases hq : trimQ (limF 4 cl) a ((pushF 4 P (a + 1) s.1).get 0) with
    | nil => exact absurd hq hne
    | cons e r =>
      simp only
      have hmem : e ∈ (pushF 4 P (a + 1) s.1).get 0 := mem_trimQ (l := limF 4 cl) (a := a) (by rw [hq]; simp)
      have he := okW_get hwp 0 e hmem
      have hcand := cand_ok (P := P) hm hc he.1 he.2 (hP e he.1 he.2)
      split
      · exact hcand
      · rename_i hb2
        rcases hb with hb | hb
        · exfalso
          apply hb2
          rw [hb]
          unfold okPl cand at hcand
          simp only at hcand
          unfold betterF maxI
          simp only
          rw [if_pos (by omega)]
          simp
          omega
        · exact hb
  have h0 := chooseK_ok hm hc hP (s := (pushF 4 P (a + 1) s.1, s.2)) hwp hb 0
  have keep : ∀ (k : Nat) (t : Wq × Pl), okW n a t.1 → okPl n a t.2 → okW n a (chooseK 4 cl P a k t).1 ∧ okPl n a (chooseK 4 cl P a k t).2 := by
    intro k t htw htb
    refine ⟨(chooseK_ok hm hc hP htw (.inr htb) k).1, ?_⟩
    unfold chooseK candF
    simp only
    cases hq : trimQ (limF 4 cl) a (t.1.get k) with
    | nil => exact htb
    | cons e r =>
      simp only
      have hmem : e ∈ t.1.get k := mem_trimQ (l := limF 4 cl) (a := a) (by rw [hq]; simp)
      have he := okW_get htw k e hmem
      split
      · exact cand_ok hm hc he.1 he.2 (hP e he.1 he.2)
      · exact htb
  have h1 := keep 1 _ h0.1 hk0
  exact (keep 2 _ h1.1 h1.2).2

def okB (n a : Nat) (s : Bst) : Prop := s.ps.length = n - a + 1 ∧ (∀ e, a ≤ e → e ≤ n → okPl n e (planAt s.ps a e)) ∧ okW n a s.w1 ∧ okW n a s.w2 ∧ okW n a s.w4

theorem planAt_cons (p : Pl) (ps : List Pl) (a e : Nat) (h : a < e) : planAt (p :: ps) a e = planAt ps (a + 1) e := by
  unfold planAt
  obtain ⟨d, rfl⟩ : ∃ d, e = a + 1 + d := ⟨e - (a + 1), by omega⟩
  rw [show a + 1 + d - a = d + 1 by omega, show a + 1 + d - (a + 1) = d by omega]
  rfl

theorem stepB_ok {n a cl : Nat} {c : Int} (hc : cl < 3) (ha : a < n) (hn : n ≤ 5000) {s : Bst} (h : okB n (a + 1) s) : okB n a (stepB cl c a s) := by
  obtain ⟨hl, hp, h1, h2, h4⟩ := h
  have hP : ∀ e, a < e → e ≤ n → okPl n e (planAt s.ps (a + 1) e) := fun e he hen => hp e he hen
  have m1 := modeF_ok (m := 1) (c := c) (.inl rfl) hc ha hP (s := (s.w1, ⟨maxI, 0, 0, 0⟩)) h1 (.inl rfl)
  have m2 := modeF_ok (m := 2) (c := c) (.inr (.inl rfl)) hc ha hP (s := (s.w2, (modeF 1 cl c (planAt s.ps (a + 1)) a (s.w1, ⟨maxI, 0, 0, 0⟩)).2)) h2 m1.2
  have m4 := modeF_ok (m := 4) (c := c) (.inr (.inr rfl)) hc ha hP (s := (s.w4, (modeF 2 cl c (planAt s.ps (a + 1)) a (s.w2, (modeF 1 cl c (planAt s.ps (a + 1)) a (s.w1, ⟨maxI, 0, 0, 0⟩)).2)).2)) h4 m2.2
  have mo := mode4_ok (c := c) hc ha hn hP (s := (s.w4, (modeF 2 cl c (planAt s.ps (a + 1)) a (s.w2, (modeF 1 cl c (planAt s.ps (a + 1)) a (s.w1, ⟨maxI, 0, 0, 0⟩)).2)).2)) h4 m2.2
  unfold stepB
  simp only
  refine ⟨by simp [hl]; omega, fun e he hen => ?_, m1.1, m2.1, m4.1⟩
  rcases Nat.lt_or_ge a e with h | h
  · rw [planAt_cons _ _ _ _ h]; exact hP e h hen
  · obtain rfl : e = a := by omega
    unfold planAt
    rw [Nat.sub_self]
    exact mo

theorem bstF_ok {cl : Nat} (hc : cl < 3) (bs : List Int) (hn : bs.length ≤ 5000) : ∀ d, d ≤ bs.length → okB bs.length (bs.length - d) (bstF cl bs d)
  | 0, _ => by
    refine ⟨by simp [bstF], fun e he hen => ?_, okW_nil _ _, okW_nil _ _, okW_nil _ _⟩
    obtain rfl : e = bs.length := by omega
    unfold planAt bstF
    simp [okPl, Pl.zero]
  | d + 1, h => by
    have ih := bstF_ok hc bs hn d (by omega)
    have e : bs.length - d = bs.length - (d + 1) + 1 := by omega
    rw [e] at ih
    exact stepB_ok hc (by omega) hn ih

end Go.Proofs.Ytifgpjhodajccaa
