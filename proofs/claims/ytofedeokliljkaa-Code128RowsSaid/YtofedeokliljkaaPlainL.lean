/-
  Plain: no other sequence of code values is shorter, or as short and less. Condition: at most 5000 characters.
-/
import Derived.Test.YtofedeokliljkaaPlainK
namespace Go.Proofs.Ytofedeokliljkaa

/-- What the loop over the two sequences finds. -/
def cmpF : List Int → List Int → Bool
  | x :: a, y :: b => if x < y then true else if y < x then false else cmpF a b
  | _, _ => true

theorem cmpF_refl : ∀ (a : List Int), cmpF a a = true
  | [] => rfl
  | x :: a => by simp [cmpF, cmpF_refl a]

theorem cmpF_app : ∀ (a b t t' : List Int), a.length = b.length → cmpF a b = true → (a = b → cmpF t t' = true) → cmpF (a ++ t) (b ++ t') = true
  | [], [], t, t', _, _, h => by simpa using h rfl
  | [], _ :: _, _, _, h, _, _ => by simp at h
  | _ :: _, [], _, _, h, _, _ => by simp at h
  | x :: a, y :: b, t, t', hl, hc, h => by
    simp only [cmpF, List.cons_append] at hc ⊢
    split
    · rfl
    · rename_i h1
      rw [if_neg h1] at hc
      split
      · rename_i h2; rw [if_pos h2] at hc; simp at hc
      · rename_i h2
        rw [if_neg h2] at hc
        refine cmpF_app a b t t' (by simpa using hl) hc (fun e => h ?_)
        rw [e, show x = y by omega]

theorem intF_ext : ∀ (n : Nat) (l : List Int), l.length ≤ n → ∀ (s : Int) (acc res : List Int), intF s acc l = (res, 0) → ∃ t, res = acc ++ t
  | _, [], _, s, acc, res, h => by simp [intF] at h; exact ⟨[], by simp [h]⟩
  | 0, v :: r, h, _, _, _, _ => by simp at h
  | n + 1, v :: r, h, s, acc, res, he => by
    have hr : r.length ≤ n := by simpa using h
    have go : ∀ (s' : Int) (x : List Int), intF s' (acc ++ x) r = (res, 0) → ∃ t, res = acc ++ t := fun s' x hx => by
      obtain ⟨t, ht⟩ := intF_ext n r hr s' (acc ++ x) res hx
      exact ⟨x ++ t, by rw [ht, List.append_assoc]⟩
    have go0 : ∀ (s' : Int), intF s' acc r = (res, 0) → ∃ t, res = acc ++ t := fun s' hx => intF_ext n r hr s' acc res hx
    rw [intF.eq_def] at he
    simp only at he
    split at he
    · simp at he
    split at he
    · exact go _ _ he
    split at he
    · exact go _ _ he
    split at he
    · exact go _ _ he
    split at he
    · exact go _ _ he
    split at he
    · exact go _ _ he
    split at he
    · cases r with
      | nil => simp at he
      | cons u q =>
        simp only at he
        split at he
        · simp at he
        · obtain ⟨t, ht⟩ := intF_ext n q (by simp at hr; omega) _ _ res he
          exact ⟨[charF u (5 - s)] ++ t, by rw [ht, List.append_assoc]⟩
    split at he
    · exact go0 _ he
    split at he
    · exact go0 _ he
    split at he
    · exact go0 _ he
    · exact go _ _ he

/-- The characters that are read are characters. -/
theorem intF_good : ∀ (n : Nat) (l : List Int), l.length ≤ n → (∀ v ∈ l, 0 ≤ v) → ∀ (s : Int) (acc res : List Int), (∀ c ∈ acc, isCh c) → intF s acc l = (res, 0) → (∀ c ∈ res, isCh c) ∧ res.length ≤ acc.length + 2 * l.length
  | _, [], _, _, s, acc, res, ha, h => by simp [intF] at h; subst h; exact ⟨ha, by simp⟩
  | 0, v :: r, h, _, _, _, _, _, _ => by simp at h
  | n + 1, v :: r, h, hv, s, acc, res, ha, he => by
    have hr : r.length ≤ n := by simpa using h
    have hv0 := hv v (by simp)
    have hvr : ∀ u ∈ r, 0 ≤ u := fun u hu => hv u (by simp [hu])
    have app : ∀ (x : List Int), (∀ c ∈ x, isCh c) → ∀ c ∈ acc ++ x, isCh c := fun x hx c hc => by
      rw [List.mem_append] at hc
      rcases hc with hc | hc
      · exact ha c hc
      · exact hx c hc
    have go : ∀ (s' : Int) (x : List Int), (∀ c ∈ x, isCh c) → x.length ≤ 2 → intF s' (acc ++ x) r = (res, 0) → (∀ c ∈ res, isCh c) ∧ res.length ≤ acc.length + 2 * (v :: r).length := fun s' x hx hl hx2 => by
      have := intF_good n r hr hvr s' (acc ++ x) res (app x hx) hx2
      refine ⟨this.1, ?_⟩
      have := this.2
      simp at this ⊢; omega
    have go0 : ∀ (s' : Int), intF s' acc r = (res, 0) → (∀ c ∈ res, isCh c) ∧ res.length ≤ acc.length + 2 * (v :: r).length := fun s' hx => by
      have := go s' [] (by simp) (by simp) (by simpa using hx); exact this
    have one : ∀ c, isCh c → ∀ q ∈ [c], isCh q := fun c hc q hq => by simp at hq; subst hq; exact hc
    have chr : ∀ u t, 0 ≤ u → u ≤ 95 → isCh (charF u t) := fun u t h1 h2 => by unfold charF isCh; split <;> omega
    rw [intF.eq_def] at he
    simp only at he
    split at he
    · simp at he
    split at he
    · exact go _ _ (one _ (by unfold isCh; omega)) (by simp) he
    split at he
    · rename_i h1 h2 h3
      refine go _ _ ?_ (by simp) he
      intro q hq
      simp at hq
      rcases hq with rfl | rfl <;> (unfold isCh; omega)
    split at he
    · rename_i h4; exact go _ _ (one _ (chr v s hv0 h4)) (by simp) he
    split at he
    · exact go _ _ (one _ (by unfold isCh; omega)) (by simp) he
    split at he
    · exact go _ _ (one _ (by unfold isCh; omega)) (by simp) he
    split at he
    · cases r with
      | nil => simp at he
      | cons u q =>
        simp only at he
        split at he
        · simp at he
        · rename_i hu
          have hu0 := hvr u (by simp)
          have := intF_good n q (by simp at hr; omega) (fun x hx => hvr x (by simp [hx])) _ _ res (app _ (one _ (chr u (5 - s) hu0 (by omega)))) he
          refine ⟨this.1, ?_⟩
          have := this.2
          simp at this ⊢; omega
    split at he
    · exact go0 _ he
    split at he
    · exact go0 _ he
    split at he
    · exact go0 _ he
    · exact go _ _ (one _ (by unfold isCh; omega)) (by simp) he

theorem isCh_bad : ∀ {cs : List Int}, (∀ c ∈ cs, isCh c) → badC cs = false
  | [], _ => rfl
  | x :: r, h => by
    unfold badC
    have := h x (by simp)
    unfold isCh at this
    rw [if_neg (by omega)]
    exact isCh_bad (fun c hc => h c (by simp [hc]))

theorem own_of_text {v st : Int} (h0 : 0 ≤ v) (h1 : v ≤ 95) (hst : st = 2 ∨ st = 3) : valF (charF v st) st = (v, true) ∧ ownV (charF v st) st = (v, true) := by
  have h : valF (charF v st) st = (v, true) := by
    rcases hst with rfl | rfl
    · by_cases h64 : 64 ≤ v
      · have e : charF v 2 = v - 64 := by unfold charF; rw [if_pos ⟨rfl, h64⟩]
        rw [e]; unfold valF
        rw [if_pos (by omega)]; congr 1; omega
      · have e : charF v 2 = v + 32 := by unfold charF; rw [if_neg (by omega)]
        rw [e]; unfold valF
        rw [if_neg (by omega), if_pos (by omega)]; congr 1; omega
    · have e : charF v 3 = v + 32 := by unfold charF; rw [if_neg (by omega)]
      rw [e]; unfold valF
      rw [if_neg (by omega), if_pos (by omega)]; congr 1; omega
  refine ⟨h, ?_⟩
  unfold ownV
  rw [if_neg, h]
  unfold charF
  split <;> omega

theorem own_val {c st : Int} (hc : isCh c) (hst : st = 2 ∨ st = 3 ∨ st = 4) (h : (ownV c st).2 = true) : (st ≠ 4 ∧ (ownV c st).1 ≤ 97) ∨ (ownV c st).1 = 102 ∨ (st = 2 ∧ (ownV c st).1 = 101) ∨ (st = 3 ∧ (ownV c st).1 = 100) := by
  unfold isCh at hc
  unfold ownV at h ⊢
  by_cases h256 : 256 ≤ c
  · rw [if_pos h256] at h ⊢
    have : c = 256 ∨ c = 257 ∨ c = 258 ∨ c = 259 := by omega
    rcases this with rfl | rfl | rfl | rfl <;> rcases hst with rfl | rfl | rfl <;> simp [funF] at h ⊢
  · rw [if_neg h256] at h ⊢
    unfold valF at h ⊢
    split at h
    · rename_i h1; rw [if_pos h1]; simp only; omega
    · rename_i h1
      rw [if_neg h1]
      split at h
      · rename_i h2; rw [if_pos h2]; simp only; omega
      · simp at h

/-- A value determines its move. -/
theorem moves_inj {cs : List Int} {k : Nat} (hc : isCh (cs.getD k 0)) {st : Int} (hst : st = 2 ∨ st = 3 ∨ st = 4) {m m' : Mv} (h : m ∈ movesL cs k st) (h' : m' ∈ movesL cs k st) (e : m.v = m'.v) : m = m' := by
  have hov := own_val hc hst
  rcases hst with rfl | rfl | rfl
  · rcases mem_moves2 h with rfl | rfl | rfl | ⟨o, rfl⟩ <;> rcases mem_moves2 h' with rfl | rfl | rfl | ⟨o', rfl⟩ <;> simp only at e ⊢ <;> first | rfl | omega | (have := hov (by assumption); omega)
  · rcases mem_moves3 h with rfl | rfl | rfl | ⟨o, rfl⟩ <;> rcases mem_moves3 h' with rfl | rfl | rfl | ⟨o', rfl⟩ <;> simp only at e ⊢ <;> first | rfl | omega | (have := hov (by assumption); omega)
  · have hd : ∀ (p : k + 1 < cs.length ∧ digB (cs.getD k 0) = true ∧ digB (cs.getD (k + 1) 0) = true), 10 * (cs.getD k 0 - 48) + cs.getD (k + 1) 0 - 48 ≤ 99 := by
      intro p
      obtain ⟨_, p2, p3⟩ := p
      unfold digB at p2 p3
      simp only [decide_eq_true_eq] at p2 p3
      omega
    rcases mem_moves4 h with rfl | rfl | ⟨p, rfl⟩ | ⟨o, rfl⟩ <;> rcases mem_moves4 h' with rfl | rfl | ⟨p', rfl⟩ | ⟨o', rfl⟩ <;> simp only at e ⊢ <;> first
      | rfl | omega | (have := hd (by assumption); omega) | (have := hov (by assumption); omega) | (have := hd (by assumption); have := hov (by assumption); omega)

theorem moves2_own {cs : List Int} {k : Nat} {st v : Int} (hst : st = 2 ∨ st = 3 ∨ st = 4) (h : ownV (cs.getD k 0) st = (v, true)) : (⟨v, (k : Int) + 1, st⟩ : Mv) ∈ movesL cs k st := by
  have h1 : (ownV (cs.getD k 0) st).1 = v := by rw [h]
  have h2 : (ownV (cs.getD k 0) st).2 = true := by rw [h]
  rcases hst with rfl | rfl | rfl
  · unfold movesL tailM
    simp only [show ¬ ((2 : Int) = 0) by omega, show ¬ ((2 : Int) = 1) by omega, if_false, if_true]
    rw [List.mem_append, if_pos h2, h1]; right; simp
  · unfold movesL tailM
    simp only [show ¬ ((3 : Int) = 0) by omega, show ¬ ((3 : Int) = 1) by omega, show ¬ ((3 : Int) = 2) by omega, if_false, if_true]
    rw [List.mem_append, if_pos h2, h1]; right; simp
  · unfold movesL tailM
    simp only [show ¬ ((4 : Int) = 0) by omega, show ¬ ((4 : Int) = 1) by omega, show ¬ ((4 : Int) = 2) by omega, show ¬ ((4 : Int) = 3) by omega, if_false]
    rw [if_pos h2, h1]; exact List.mem_append_right _ (by simp)

/-- The cost of a node in a code set. -/
theorem cost_set {cs : List Int} (hb : badC cs = false) (hn : cs.length ≤ 5000) {k : Nat} (hk : k ≤ cs.length) {st : Int} (hst : st = 2 ∨ st = 3 ∨ st = 4) : ∃ f : Nat, costsF cs k st = some (f : Int) := by
  obtain ⟨_, _, g2, g3, g4⟩ := costs_good cs hn (badC_ok hb) k hk
  have b0 := rowAt_bnd cs k
  unfold bndR at b0
  rcases hst with rfl | rfl | rfl
  · exact ⟨(rowAt cs k).a0.toNat, by rw [g2]; congr 1; omega⟩
  · exact ⟨(rowAt cs k).a1.toNat, by rw [g3]; congr 1; omega⟩
  · exact ⟨(rowAt cs k).a2.toNat, by rw [g4]; congr 1; omega⟩

/-- One move, and what follows it. -/
theorem min_step {cs : List Int} (hb : badC cs = false) (hn : cs.length ≤ 5000) {k : Nat} (hk : k < cs.length) {st : Int} (hst : st = 2 ∨ st = 3 ∨ st = 4) {f : Nat} (hf : costsF cs k st = some (f : Int))
    {m : Mv} (hm : m ∈ movesL cs k st) {j : Nat} (hj : m.at_ = j) {f' : Nat} (hf' : costsF cs j m.st = some (f' : Int)) {r : List Int} (hr : f' ≤ r.length) (hc : r.length = f' → cmpF (goF cs (costsF cs) f' j m.st) r = true) :
    f ≤ (m.v :: r).length ∧ ((m.v :: r).length = f → cmpF (goF cs (costsF cs) f k st) (m.v :: r) = true) := by
  obtain ⟨c, hc1, hc2⟩ := cost_le hn (badC_ok hb) hk (by omega) (by omega) hm (by rw [hj]; exact hf')
  rw [hf] at hc1
  simp only [Option.some.injEq] at hc1
  refine ⟨by simp; omega, fun hl => ?_⟩
  have hff : f = f' + 1 := by simp at hl; omega
  subst hff
  obtain ⟨_, m0, j0, hp, hm0, e1, e2, e3, e4, e5, hj0, hg, hmin⟩ := go_step hb hn (Nat.le_of_lt hk) (by omega) (by omega) hf
  rw [hg]
  have hle := hmin m hm (by unfold hits; rw [hj, hf']; congr 1; omega)
  simp only [cmpF]
  split
  · rfl
  · rename_i hlt
    rw [if_neg (by omega)]
    have hmm : m0 = m := moves_inj (badC_ok hb _ (by simp [hk])) hst hm0 hm (by omega)
    subst hmm
    have : j0 = j := by omega
    subst this
    exact hc (by simp at hl; omega)

theorem min_path {cs : List Int} (hb : badC cs = false) (hn : cs.length ≤ 5000) : ∀ (n : Nat) (vs : List Int), vs.length ≤ n → (∀ v ∈ vs, 0 ≤ v) → ∀ (k : Nat) (st : Int) (acc : List Int) (f : Nat), k ≤ cs.length → (st = 2 ∨ st = 3 ∨ st = 4) →
    intF st acc vs = (acc ++ cs.drop k, 0) → costsF cs k st = some (f : Int) → f ≤ vs.length ∧ (vs.length = f → cmpF (goF cs (costsF cs) f k st) vs = true)
  | n, vs, hvl, hv, k, st, acc, f, hk, hst, he, hf => by
    have hch := badC_ok hb
    rcases Nat.lt_or_ge k cs.length with hlt | hge
    · cases vs with
      | nil =>
        simp [intF] at he
        omega
      | cons v r =>
        cases n with
        | zero => simp at hvl
        | succ n =>
        have hr : r.length ≤ n := by simpa using hvl
        have hv0 := hv v (by simp)
        have hvr : ∀ u ∈ r, 0 ≤ u := fun u hu => hv u (by simp [hu])
        have hdr := drop_at hlt
        -- a move to a place behind, or to another code set
        have own : ∀ (ch : Int), intF st (acc ++ [ch]) r = (acc ++ cs.drop k, 0) → ownV ch st = (v, true) → f ≤ (v :: r).length ∧ ((v :: r).length = f → cmpF (goF cs (costsF cs) f k st) (v :: r) = true) := by
          intro ch hx ho
          obtain ⟨t, ht⟩ := intF_ext _ r (Nat.le_refl _) _ _ _ hx
          rw [hdr] at ht
          have hcc : cs.getD k 0 = ch ∧ cs.drop (k + 1) = t := by simpa using ht
          rw [← hcc.1] at ho hx
          obtain ⟨f', hf'⟩ := cost_set hb hn (k := k + 1) hlt hst
          have hx2 : intF st (acc ++ [cs.getD k 0]) r = ((acc ++ [cs.getD k 0]) ++ cs.drop (k + 1), 0) := by rw [hx, hdr]; simp
          have ih := min_path hb hn n r hr hvr (k + 1) st _ f' hlt hst hx2 hf'
          exact min_step hb hn hlt hst hf (moves2_own hst ho) (j := k + 1) (by simp) hf' ih.1 ih.2
        have sel : ∀ (t : Int), (t = 2 ∨ t = 3 ∨ t = 4) → intF t acc r = (acc ++ cs.drop k, 0) → (⟨v, k, t⟩ : Mv) ∈ movesL cs k st → f ≤ (v :: r).length ∧ ((v :: r).length = f → cmpF (goF cs (costsF cs) f k st) (v :: r) = true) := by
          intro t ht hx hm
          obtain ⟨f', hf'⟩ := cost_set hb hn (k := k) hk ht
          have ih := min_path hb hn n r hr hvr k t _ f' hk ht hx hf'
          exact min_step hb hn hlt hst hf hm (j := k) rfl hf' ih.1 ih.2
        rw [intF.eq_def] at he
        simp only at he
        split at he
        · simp at he
        split at he
        · rename_i h2
          refine own 256 he ?_
          subst h2
          rcases hst with rfl | rfl | rfl <;> decide
        split at he
        · rename_i h1 h2 h3
          obtain ⟨rfl, h3⟩ := h3
          obtain ⟨t, ht⟩ := intF_ext _ r (Nat.le_refl _) _ _ _ he
          have hk1 : k + 1 < cs.length := by
            have := congrArg List.length ht
            simp at this; omega
          have hdr2 := drop_at hk1
          rw [hdr, hdr2] at ht
          have hcc : cs.getD k 0 = 48 + v / 10 ∧ cs.getD (k + 1) 0 = 48 + v % 10 ∧ cs.drop (k + 1 + 1) = t := by simpa using ht
          have hm : (⟨v, (k : Int) + 2, 4⟩ : Mv) ∈ movesL cs k 4 := by
            have hp : k + 1 < cs.length ∧ digB (cs.getD k 0) = true ∧ digB (cs.getD (k + 1) 0) = true := by
              rw [hcc.1, hcc.2.1]
              unfold digB
              simp only [decide_eq_true_eq]
              omega
            unfold movesL
            simp only [show ¬ ((4 : Int) = 0) by omega, show ¬ ((4 : Int) = 1) by omega, show ¬ ((4 : Int) = 2) by omega, show ¬ ((4 : Int) = 3) by omega, if_false, if_pos hp]
            rw [List.mem_append, List.mem_append]
            refine .inl (.inr ?_)
            simp only [List.mem_singleton, Mv.mk.injEq, and_true]
            rw [hcc.1, hcc.2.1]; omega
          obtain ⟨f', hf'⟩ := cost_set hb hn (k := k + 2) hk1 hst
          have hx2 : intF 4 (acc ++ [48 + v / 10, 48 + v % 10]) r = ((acc ++ [48 + v / 10, 48 + v % 10]) ++ cs.drop (k + 2), 0) := by
            rw [he, hdr, hdr2, hcc.1, hcc.2.1]; simp
          have ih := min_path hb hn n r hr hvr (k + 2) 4 _ f' hk1 hst hx2 hf'
          exact min_step hb hn hlt hst hf hm (j := k + 2) (by simp) hf' ih.1 ih.2
        split at he
        · rename_i h1 h2 h3 h4
          exact own _ he (own_of_text hv0 h4 (by omega)).2
        split at he
        · rename_i h1 h2 h3 h4 h5
          refine own 258 he ?_
          subst h5
          have : st = 2 ∨ st = 3 := by omega
          rcases this with rfl | rfl <;> decide
        split at he
        · rename_i h1 h2 h3 h4 h5 h6
          refine own 257 he ?_
          subst h6
          have : st = 2 ∨ st = 3 := by omega
          rcases this with rfl | rfl <;> decide
        split at he
        · rename_i h1 h2 h3 h4 h5 h6 h7
          subst h7
          have hst2 : st = 2 ∨ st = 3 := by omega
          cases r with
          | nil => simp at he
          | cons u q =>
            simp only at he
            split at he
            · simp at he
            · rename_i hu
              have hu0 := hvr u (by simp)
              obtain ⟨t, ht⟩ := intF_ext _ q (Nat.le_refl _) _ _ _ he
              rw [hdr] at ht
              have hcc : cs.getD k 0 = charF u (5 - st) ∧ cs.drop (k + 1) = t := by simpa using ht
              have hval : valF (cs.getD k 0) (5 - st) = (u, true) := by rw [hcc.1]; exact (own_of_text hu0 (by omega) (by omega)).1
              obtain ⟨f', hf'⟩ := cost_set hb hn (k := k + 1) hlt hst
              have hx2 : intF st (acc ++ [cs.getD k 0]) q = ((acc ++ [cs.getD k 0]) ++ cs.drop (k + 1), 0) := by rw [hcc.1, he, hdr, hcc.1]; simp
              have ih := min_path hb hn n q (by simp at hr; omega) (fun x hx => hvr x (by simp [hx])) (k + 1) st _ f' hlt hst hx2 hf'
              -- the node behind the shift
              have hnode : costsF cs k (3 - st) = some ((f' + 1 : Nat) : Int) := by
                obtain ⟨g0, g1, _, _, _⟩ := costs_good cs hn hch k hk
                obtain ⟨_, _, d2, d3, _⟩ := costs_good cs hn hch (k + 1) hlt
                rcases hst2 with rfl | rfl
                · have hv3 : (valF (cs.getD k 0) 3).2 = true := by rw [show (3 : Int) = 5 - 2 by omega, hval]
                  have : (3 : Int) - 2 = 1 := by omega
                  rw [this, g1, if_pos ⟨hlt, hv3⟩]
                  rw [d2] at hf'
                  simp only [Option.some.injEq] at hf' ⊢
                  omega
                · have hv2 : (valF (cs.getD k 0) 2).2 = true := by rw [show (2 : Int) = 5 - 3 by omega, hval]
                  have : (3 : Int) - 3 = 0 := by omega
                  rw [this, g0, if_pos ⟨hlt, hv2⟩]
                  rw [d3] at hf'
                  simp only [Option.some.injEq] at hf' ⊢
                  omega
              have hm : (⟨98, k, 3 - st⟩ : Mv) ∈ movesL cs k st := by
                rcases hst2 with rfl | rfl <;> (unfold movesL; simp)
              refine min_step hb hn hlt hst hf hm (j := k) rfl hnode (by simp; omega) (fun hl => ?_)
              simp only [List.length_cons] at hl
              obtain ⟨_, m', j', _, hm', d1, d2, d3, d4, d5, hj', hg', _⟩ := go_step hb hn hk (by omega) (by omega) hnode
              have hm2 : m'.v = u ∧ m'.at_ = (k : Int) + 1 ∧ m'.st = st := by
                rcases hst2 with rfl | rfl
                · have hm1 : m' ∈ movesL cs k 1 := hm'
                  obtain ⟨_, rfl⟩ := mem_moves1 hm1
                  refine ⟨?_, rfl, rfl⟩
                  show (valF (cs.getD k 0) 3).1 = u
                  rw [show (3 : Int) = 5 - 2 by omega, hval]
                · have hm1 : m' ∈ movesL cs k 0 := hm'
                  obtain ⟨_, rfl⟩ := mem_moves0 hm1
                  refine ⟨?_, rfl, rfl⟩
                  show (valF (cs.getD k 0) 2).1 = u
                  rw [show (2 : Int) = 5 - 3 by omega, hval]
              have hjj : j' = k + 1 := by omega
              show cmpF (goF cs (costsF cs) (f' + 1) k (3 - st)) (u :: q) = true
              rw [hg', hm2.1, hm2.2.2, hjj]
              simp only [cmpF]
              rw [if_neg (by omega), if_neg (by omega)]
              exact ih.2 (by omega)
        split at he
        · rename_i h1 h2 h3 h4 h5 h6 h7 h8
          subst h8
          refine sel 4 (by omega) he ?_
          have : st = 2 ∨ st = 3 := by omega
          rcases this with rfl | rfl <;> (unfold movesL; simp)
        split at he
        · rename_i h1 h2 h3 h4 h5 h6 h7 h8 h9
          obtain ⟨rfl, h9⟩ := h9
          refine sel 3 (by omega) he ?_
          have : st = 2 ∨ st = 4 := by omega
          rcases this with rfl | rfl <;> (unfold movesL; simp)
        split at he
        · rename_i h1 h2 h3 h4 h5 h6 h7 h8 h9 h10
          obtain ⟨rfl, h10⟩ := h10
          refine sel 2 (by omega) he ?_
          have : st = 3 ∨ st = 4 := by omega
          rcases this with rfl | rfl <;> (unfold movesL; simp)
        · rename_i h1 h2 h3 h4 h5 h6 h7 h8 h9 h10
          refine own 259 he ?_
          have : (st = 2 ∧ v = 101) ∨ (st = 3 ∧ v = 100) := by omega
          rcases this with ⟨rfl, rfl⟩ | ⟨rfl, rfl⟩ <;> decide
    · have hf0 : f = 0 := end_zero hb hn hk hge (by omega) (by omega) hf
      subst hf0
      refine ⟨Nat.zero_le _, fun hl => ?_⟩
      cases vs with
      | nil => rfl
      | cons _ _ => simp at hl

/-- The start value: its cost is least, and it is the least of those. -/
theorem start_min {cs : List Int} (hb : badC cs = false) (hn : cs.length ≤ 5000) {f : Nat} (hf : costsF cs (0 : Nat) (startF (costsF cs) - 101) = some (f : Int)) {s : Int} (hs : 103 ≤ s ∧ s ≤ 105) {g : Nat} (hg : costsF cs (0 : Nat) (s - 101) = some (g : Int)) :
    f ≤ g ∧ (f = g → startF (costsF cs) ≤ s) := by
  obtain ⟨_, _, g2, g3, g4⟩ := costs_good cs hn (badC_ok hb) 0 (by omega)
  have g2' : costsF cs 0 2 = some (rowAt cs 0).a0 := g2
  have g3' : costsF cs 0 3 = some (rowAt cs 0).a1 := g3
  have g4' : costsF cs 0 4 = some (rowAt cs 0).a2 := g4
  have hf0 : costsF cs 0 (startF (costsF cs) - 101) = some (f : Int) := hf
  have hg0 : costsF cs 0 (s - 101) = some (g : Int) := hg
  have hs' : startF (costsF cs) = (if (rowAt cs 0).a1 < (rowAt cs 0).a0 then (if (rowAt cs 0).a2 < (rowAt cs 0).a1 then 105 else 104) else (if (rowAt cs 0).a2 < (rowAt cs 0).a0 then 105 else 103)) := by
    unfold startF
    simp only [g2', g3', g4', Option.getD_some]
    by_cases c1 : (rowAt cs 0).a1 < (rowAt cs 0).a0
    · simp only [if_pos c1, show (104 : Int) - 101 = 3 by omega, g3', Option.getD_some]
    · simp only [if_neg c1, show (103 : Int) - 101 = 2 by omega, g2', Option.getD_some]
  rw [hs'] at hf0 ⊢
  have hgc : (g : Int) = if s = 103 then (rowAt cs 0).a0 else if s = 104 then (rowAt cs 0).a1 else (rowAt cs 0).a2 := by
    have : s = 103 ∨ s = 104 ∨ s = 105 := by omega
    rcases this with rfl | rfl | rfl
    · rw [show (103 : Int) - 101 = 2 by omega, g2'] at hg0; simp at hg0; simp; omega
    · rw [show (104 : Int) - 101 = 3 by omega, g3'] at hg0; simp at hg0; simp; omega
    · rw [show (105 : Int) - 101 = 4 by omega, g4'] at hg0; simp at hg0; simp; omega
  have : s = 103 ∨ s = 104 ∨ s = 105 := by omega
  by_cases c1 : (rowAt cs 0).a1 < (rowAt cs 0).a0
  · rw [if_pos c1] at hf0 ⊢
    by_cases c2 : (rowAt cs 0).a2 < (rowAt cs 0).a1
    · rw [if_pos c2] at hf0 ⊢
      rw [show (105 : Int) - 101 = 4 by omega, g4'] at hf0
      simp at hf0
      rcases this with rfl | rfl | rfl <;> simp at hgc <;> omega
    · rw [if_neg c2] at hf0 ⊢
      rw [show (104 : Int) - 101 = 3 by omega, g3'] at hf0
      simp at hf0
      rcases this with rfl | rfl | rfl <;> simp at hgc <;> omega
  · rw [if_neg c1] at hf0 ⊢
    by_cases c2 : (rowAt cs 0).a2 < (rowAt cs 0).a0
    · rw [if_pos c2] at hf0 ⊢
      rw [show (105 : Int) - 101 = 4 by omega, g4'] at hf0
      simp at hf0
      rcases this with rfl | rfl | rfl <;> simp at hgc <;> omega
    · rw [if_neg c2] at hf0 ⊢
      rw [show (103 : Int) - 101 = 2 by omega, g2'] at hf0
      simp at hf0
      rcases this with rfl | rfl | rfl <;> simp at hgc <;> omega

/-- The plain law. -/
theorem minimal (s : Int) (l : List Int) (hl : l.length ≤ 200) (hs : 103 ≤ s ∧ s ≤ 105) (hv : ∀ v ∈ l, 0 ≤ v ∧ v ≤ 105) {cs : List Int} (hc : charsF ((s :: l) ++ [chkL (s :: l), 106]) = (cs, 0)) (h0 : cs.length ≠ 0) :
    ∃ best, valuesF cs = (best, 0) ∧ best.length ≤ ((s :: l) ++ [chkL (s :: l), 106]).length ∧ best.length ≤ 403 ∧ cs.length ≤ 400 ∧
      (best.length = ((s :: l) ++ [chkL (s :: l), 106]).length → cmpF best ((s :: l) ++ [chkL (s :: l), 106]) = true) ∧ charsF best = (cs, 0) := by
  rw [chars_full s l hs (fun v h => by have := hv v h; omega)] at hc
  obtain ⟨hg1, hg2⟩ := intF_good _ l (Nat.le_refl _) (fun v h => (hv v h).1) _ _ _ (by simp) hc
  have hb := isCh_bad hg1
  have hn : cs.length ≤ 400 := by simp at hg2; omega
  have hval : valuesF cs = (seqF cs ++ [chkL (seqF cs), 106], 0) := by unfold valuesF; rw [if_neg h0, if_neg (by omega), if_neg (by rw [hb]; simp)]
  have hsr := start_range hb (by omega)
  obtain ⟨f, hf, he⟩ := seq_parts hb (by omega)
  have hgl := (go_mem hb (by omega) f 0 _ (by omega) (by omega) (by omega) hf).2
  have hst : s - 101 = 2 ∨ s - 101 = 3 ∨ s - 101 = 4 := by omega
  obtain ⟨g, hg⟩ := cost_set hb (by omega) (k := 0) (by omega) hst
  have hmp := min_path hb (by omega) _ l (Nat.le_refl _) (fun v h => (hv v h).1) 0 (s - 101) [] g (by omega) hst (by simpa using hc) hg
  have hsm := start_min hb (by omega) hf hs hg
  have hlen : (seqF cs).length = f + 1 := by rw [he]; simp [hgl]
  refine ⟨_, hval, by simp [hlen]; omega, by simp [hlen]; omega, hn, fun hl => ?_, chars_values hb (by omega)⟩
  simp only [List.length_append, hlen, List.length_cons, List.length_nil] at hl
  have hfg : f = g := by omega
  have hss := hsm.2 hfg
  refine cmpF_app _ _ _ _ (by rw [hlen]; simp; omega) ?_ (fun e => by rw [e]; exact cmpF_refl _)
  rw [he]
  simp only [cmpF]
  split
  · rfl
  · rename_i hlt
    rw [if_neg (by omega)]
    have : startF (costsF cs) = s := by omega
    rw [this, hfg]
    exact hmp.2 (by omega)

end Go.Proofs.Ytofedeokliljkaa
