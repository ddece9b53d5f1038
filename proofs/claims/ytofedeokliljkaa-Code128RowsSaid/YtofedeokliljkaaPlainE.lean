/-
  Plain: the sequence of moves that Values takes. Condition: at most 5000 characters.
-/
import Derived.Test.YtofedeokliljkaaPlainD
import Derived.Test.YtofedeokliljkaaWalkR
namespace Go.Proofs.Ytofedeokliljkaa

def pstep (F : Tab) (c : Int) (o : Option Mv) (m : Mv) : Option Mv :=
  match F m.at_ m.st with
  | none => o
  | some r => if r + 1 = c then (match o with | none => some m | some b => if m.v < b.v then some m else o) else o

def pickF (F : Tab) (c : Int) (ms : List Mv) : Option Mv := ms.foldl (pstep F c) none

def hits (F : Tab) (c : Int) (m : Mv) : Prop := F m.at_ m.st = some (c - 1)

theorem pstep_no {F : Tab} {c : Int} {o : Option Mv} {m : Mv} (h : ¬ hits F c m) : pstep F c o m = o := by
  unfold pstep
  unfold hits at h
  cases hF : F m.at_ m.st with
  | none => rfl
  | some r =>
    simp only
    rw [if_neg]
    intro e
    apply h; rw [hF, ← e]; congr 1; omega

theorem pstep_yes {F : Tab} {c : Int} {o : Option Mv} {m : Mv} (h : hits F c m) : pstep F c o m = (match o with | none => some m | some b => if m.v < b.v then some m else o) := by
  unfold pstep hits at *
  rw [h]
  simp only
  rw [if_pos (by omega)]

/-- The best so far. -/
def BestOf (F : Tab) (c : Int) (o : Option Mv) (ms : List Mv) : Prop :=
  match o with
  | none => ∀ m ∈ ms, ¬ hits F c m
  | some b => b ∈ ms ∧ hits F c b ∧ ∀ m ∈ ms, hits F c m → b.v ≤ m.v

theorem best_fold (F : Tab) (c : Int) : ∀ (ms pre : List Mv) (o : Option Mv), BestOf F c o pre → BestOf F c (ms.foldl (pstep F c) o) (pre ++ ms)
  | [], pre, o, h => by simpa using h
  | m :: ms, pre, o, h => by
    rw [List.foldl_cons, show pre ++ m :: ms = (pre ++ [m]) ++ ms by simp]
    refine best_fold F c ms (pre ++ [m]) _ ?_
    by_cases hm : hits F c m
    · rw [pstep_yes hm]
      cases o with
      | none =>
        refine ⟨by simp, hm, fun q hq hh => ?_⟩
        rw [List.mem_append] at hq
        rcases hq with hq | hq
        · exact absurd hh (h q hq)
        · simp at hq; subst hq; exact Int.le_refl _
      | some b =>
        obtain ⟨h1, h2, h3⟩ := h
        simp only
        split
        · rename_i hlt
          refine ⟨by simp, hm, fun q hq hh => ?_⟩
          rw [List.mem_append] at hq
          rcases hq with hq | hq
          · have := h3 q hq hh; omega
          · simp at hq; subst hq; exact Int.le_refl _
        · rename_i hlt
          refine ⟨by simp [h1], h2, fun q hq hh => ?_⟩
          rw [List.mem_append] at hq
          rcases hq with hq | hq
          · exact h3 q hq hh
          · simp at hq; subst hq; omega
    · rw [pstep_no hm]
      cases o with
      | none =>
        intro q hq
        rw [List.mem_append] at hq
        rcases hq with hq | hq
        · exact h q hq
        · simp at hq; subst hq; exact hm
      | some b =>
        obtain ⟨h1, h2, h3⟩ := h
        refine ⟨by simp [h1], h2, fun q hq hh => ?_⟩
        rw [List.mem_append] at hq
        rcases hq with hq | hq
        · exact h3 q hq hh
        · simp at hq; subst hq; exact absurd hh hm

theorem pick_best (F : Tab) (c : Int) (ms : List Mv) : BestOf F c (pickF F c ms) ms := by
  have := best_fold F c ms [] none (by intro q hq; simp at hq)
  rwa [List.nil_append] at this

theorem fold_min (F : Tab) : ∀ (ms : List Mv) (o : Option Int) (c : Int), ms.foldl (fun o m => omin o ((F m.at_ m.st).map (· + 1))) o = some c →
    (o = some c ∨ ∃ m ∈ ms, hits F c m) ∧ (∀ a, o = some a → c ≤ a) ∧ ∀ m ∈ ms, ∀ r, F m.at_ m.st = some r → c ≤ r + 1
  | [], o, c, h => ⟨.inl h, fun a ha => by rw [List.foldl_nil, ha] at h; cases h; exact Int.le_refl _, by simp⟩
  | m :: ms, o, c, h => by
    rw [List.foldl_cons] at h
    obtain ⟨h1, h2, h3⟩ := fold_min F ms _ c h
    cases hF : F m.at_ m.st with
    | none =>
      rw [hF, Option.map_none, omin_none] at h1 h2
      refine ⟨?_, h2, ?_⟩
      · rcases h1 with h1 | ⟨q, hq, hh⟩
        · exact .inl h1
        · exact .inr ⟨q, by simp [hq], hh⟩
      · intro q hq r hr
        simp only [List.mem_cons] at hq
        rcases hq with rfl | hq
        · rw [hF] at hr; cases hr
        · exact h3 q hq r hr
    | some r =>
      rw [hF, Option.map_some] at h1 h2
      have hle : c ≤ r + 1 := by
        cases o with
        | none => exact h2 _ rfl
        | some a => have := h2 _ rfl; omega
      refine ⟨?_, ?_, ?_⟩
      · rcases h1 with h1 | ⟨q, hq, hh⟩
        · cases o with
          | none =>
            simp only [omin, Option.some.injEq] at h1
            exact .inr ⟨m, by simp, by unfold hits; rw [hF]; congr 1; omega⟩
          | some a =>
            simp only [omin, Option.some.injEq] at h1
            by_cases hlt : a ≤ r + 1
            · left; congr 1; omega
            · exact .inr ⟨m, by simp, by unfold hits; rw [hF]; congr 1; omega⟩
        · exact .inr ⟨q, by simp [hq], hh⟩
      · intro a ha
        subst ha
        have := h2 _ rfl; omega
      · intro q hq r' hr
        simp only [List.mem_cons] at hq
        rcases hq with rfl | hq
        · rw [hF] at hr; cases hr; exact hle
        · exact h3 q hq r' hr

theorem moves_le (cs : List Int) (k : Nat) (st : Int) (hk : k < cs.length) : ∀ m ∈ movesL cs k st, m.at_ ≤ cs.length := by
  unfold movesL tailM
  simp only
  repeat' split
  all_goals simp
  all_goals omega

theorem fold_some (F : Tab) : ∀ (ms : List Mv) (a : Int), ∃ c, ms.foldl (fun o m => omin o ((F m.at_ m.st).map (· + 1))) (some a) = some c
  | [], a => ⟨a, rfl⟩
  | m :: ms, a => by
    rw [List.foldl_cons]
    cases F m.at_ m.st with
    | none => exact fold_some F ms a
    | some r => exact fold_some F ms _

theorem fold_any (F : Tab) : ∀ (ms : List Mv) (o : Option Int) (m : Mv) (r : Int), m ∈ ms → F m.at_ m.st = some r → ∃ c, ms.foldl (fun o m => omin o ((F m.at_ m.st).map (· + 1))) o = some c
  | [], _, _, _, h, _ => by simp at h
  | q :: ms, o, m, r, h, hr => by
    rw [List.foldl_cons]
    simp only [List.mem_cons] at h
    rcases h with rfl | h
    · rw [hr]
      cases o with
      | none => exact fold_some F ms _
      | some a => exact fold_some F ms _
    · exact fold_any F ms _ m r h hr

theorem moves_nat {cs : List Int} {k : Nat} (hk : k < cs.length) {st : Int} (h0 : 0 ≤ st) (h4 : st ≤ 4) {m : Mv} (hm : m ∈ movesL cs k st) : ∃ j : Nat, m.at_ = j ∧ k ≤ j ∧ j ≤ cs.length ∧ 0 ≤ m.st ∧ m.st ≤ 4 := by
  have h1 := movesL_mem cs k st h0 h4 m hm
  have h2 := moves_le cs k st hk m hm
  exact ⟨m.at_.toNat, by omega, by omega, by omega, by omega, by omega⟩


theorem cost_nonneg {cs : List Int} (hn : cs.length ≤ 5000) (hch : ∀ c ∈ cs, isCh c) {k : Nat} (hk : k ≤ cs.length) {st c : Int} (h0 : 0 ≤ st) (h4 : st ≤ 4) (h : costsF cs k st = some c) : 0 ≤ c := by
  obtain ⟨g0, g1, g2, g3, g4⟩ := costs_good cs hn hch k hk
  have b0 := rowAt_bnd cs k
  have b1 := rowAt_bnd cs (k + 1)
  unfold bndR at b0 b1
  have hst : st = 0 ∨ st = 1 ∨ st = 2 ∨ st = 3 ∨ st = 4 := by omega
  rcases hst with rfl | rfl | rfl | rfl | rfl
  · rw [g0] at h; split at h
    · cases h; omega
    · cases h
  · rw [g1] at h; split at h
    · cases h; omega
    · cases h
  · rw [g2] at h; cases h; omega
  · rw [g3] at h; cases h; omega
  · rw [g4] at h; cases h; omega

/-- The move that is taken. -/
theorem next_ok {cs : List Int} (hn : cs.length ≤ 5000) (hch : ∀ c ∈ cs, isCh c) {k : Nat} (hk : k < cs.length) {st c : Int} (h0 : 0 ≤ st) (h4 : st ≤ 4) (h : costsF cs k st = some c) :
    1 ≤ c ∧ ∃ m, pickF (costsF cs) c (movesL cs k st) = some m ∧ m ∈ movesL cs k st ∧ hits (costsF cs) c m ∧ ∀ q ∈ movesL cs k st, hits (costsF cs) c q → m.v ≤ q.v := by
  have hb := bellman cs hn hch k hk st h0 h4
  rw [h] at hb
  obtain ⟨h1, _, _⟩ := fold_min _ _ _ _ hb.symm
  rcases h1 with h1 | ⟨q, hq, hh⟩
  · cases h1
  have hbest := pick_best (costsF cs) c (movesL cs k st)
  refine ⟨?_, ?_⟩
  · obtain ⟨j, e1, e2, e3, e4, e5⟩ := moves_nat hk h0 h4 hq
    unfold hits at hh
    rw [e1] at hh
    have := cost_nonneg hn hch e3 e4 e5 hh
    omega
  · cases hp : pickF (costsF cs) c (movesL cs k st) with
    | none => rw [hp] at hbest; exact absurd hh (hbest q hq)
    | some m => rw [hp] at hbest; exact ⟨m, rfl, hbest⟩

/-- No move leads to an entry that is less by more than one. -/
theorem cost_le {cs : List Int} (hn : cs.length ≤ 5000) (hch : ∀ c ∈ cs, isCh c) {k : Nat} (hk : k < cs.length) {st r : Int} (h0 : 0 ≤ st) (h4 : st ≤ 4) {m : Mv} (hm : m ∈ movesL cs k st) (hr : costsF cs m.at_ m.st = some r) : ∃ c, costsF cs k st = some c ∧ c ≤ r + 1 := by
  have hb := bellman cs hn hch k hk st h0 h4
  obtain ⟨c, hc⟩ := fold_any (costsF cs) _ none m r hm hr
  have hb' : costsF cs k st = some c := hb.trans hc
  exact ⟨c, hb', (fold_min _ _ _ _ hc).2.2 m hm r hr⟩

/-- The values from a node on. -/
def goF (cs : List Int) (F : Tab) : Nat → Nat → Int → List Int
  | 0, _, _ => []
  | f + 1, k, st => match pickF F (f + 1) (movesL cs k st) with
    | some m => m.v :: goF cs F f m.at_.toNat m.st
    | none => []

/-- The start value. -/
def startF (F : Tab) : Int :=
  let s1 := if (F 0 3).getD 0 < (F 0 2).getD 0 then 104 else 103
  if (F 0 4).getD 0 < (F 0 (s1 - 101)).getD 0 then 105 else s1

def badC : List Int → Bool
  | [] => false
  | c :: r => if c < 0 ∨ (127 < c ∧ c < 256) ∨ 259 < c then true else badC r

theorem badC_ok : ∀ {cs : List Int}, badC cs = false → ∀ c ∈ cs, isCh c
  | [], _, c, h => by simp at h
  | x :: r, h, c, hc => by
    unfold badC at h
    split at h
    · simp at h
    · simp only [List.mem_cons] at hc
      rcases hc with rfl | hc
      · unfold isCh; omega
      · exact badC_ok h c hc

def seqF (cs : List Int) : List Int := startF (costsF cs) :: goF cs (costsF cs) ((costsF cs 0 (startF (costsF cs) - 101)).getD 0).toNat 0 (startF (costsF cs) - 101)

/-- What Values computes. -/
def valuesF (cs : List Int) : List Int × Int :=
  if cs.length = 0 then ([], 5) else if 4096 < cs.length then ([], 4) else if badC cs = true then ([], 6)
  else (seqF cs ++ [chkL (seqF cs), 106], 0)

end Go.Proofs.Ytofedeokliljkaa
