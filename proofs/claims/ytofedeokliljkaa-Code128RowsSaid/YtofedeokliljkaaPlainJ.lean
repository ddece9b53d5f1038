/-
  Plain: Decode inverts Encode; the length of what Values returns. Condition: at most 400 characters.
-/
import Derived.Test.YtofedeokliljkaaPlainI
import Derived.Test.YtofedeokliljkaaWalkZb
namespace Go.Proofs.Ytofedeokliljkaa

def modsC : Bool → List Int → List Bool
  | _, [] => []
  | b, x :: r => List.replicate x.toNat b ++ modsC (!b) r

theorem modsI_eq : ∀ (zs : List Int) (i : Nat), modsI i zs = modsC (i % 2 == 0) zs
  | [], _ => rfl
  | x :: r, i => by
    unfold modsI modsC
    rw [modsI_eq r (i + 1)]
    have : ((i + 1) % 2 == 0) = !(i % 2 == 0) := by
      rw [Bool.eq_iff_iff]; simp; omega
    rw [this]

theorem runF_rep : ∀ (j m : Nat) (x y : Bool) (t : List Bool), runF m (List.replicate (j + 1) x ++ y :: t) = if x = y then runF (m + j + 1) (y :: t) else ((m + j : Nat) + 1 : Int) :: runF 0 (y :: t)
  | 0, m, x, y, t => by simp [runF]
  | j + 1, m, x, y, t => by
    rw [List.replicate_succ, List.replicate_succ, List.cons_append, List.cons_append, runF, if_pos rfl]
    have := runF_rep j (m + 1) x y t
    rw [List.replicate_succ, List.cons_append] at this
    rw [this]
    split
    · rw [show m + 1 + j + 1 = m + (j + 1) + 1 by omega]
    · rw [show m + 1 + j = m + (j + 1) by omega]

theorem runF_rep1 : ∀ (j m : Nat) (x : Bool), runF m (List.replicate (j + 1) x) = [((m + j : Nat) : Int) + 1]
  | 0, m, x => by simp [runF]
  | j + 1, m, x => by
    rw [List.replicate_succ, List.replicate_succ, runF, if_pos rfl]
    have := runF_rep1 j (m + 1) x
    rw [List.replicate_succ] at this
    rw [this, show m + 1 + j = m + (j + 1) by omega]

theorem modsC_head (b : Bool) (z : Int) (r : List Int) (h : 1 ≤ z) : modsC b (z :: r) = b :: (List.replicate (z.toNat - 1) b ++ modsC (!b) r) := by
  rw [modsC]
  obtain ⟨j, hj⟩ : ∃ j, z.toNat = j + 1 := ⟨z.toNat - 1, by omega⟩
  rw [hj, List.replicate_succ]; rfl

theorem runF_mods : ∀ (zs : List Int) (b : Bool), (∀ z ∈ zs, 1 ≤ z) → runF 0 (modsC b zs) = zs
  | [], _, _ => rfl
  | [z], b, h => by
    have hz := h z (by simp)
    obtain ⟨j, hj⟩ : ∃ j, z.toNat = j + 1 := ⟨z.toNat - 1, by omega⟩
    simp only [modsC, List.append_nil]
    rw [hj, runF_rep1]
    congr 1; omega
  | z :: y :: r, b, h => by
    have hz := h z (by simp)
    have hy := h y (by simp)
    obtain ⟨j, hj⟩ : ∃ j, z.toNat = j + 1 := ⟨z.toNat - 1, by omega⟩
    have ih := runF_mods (y :: r) (!b) (fun q hq => h q (List.mem_cons_of_mem _ hq))
    rw [modsC, hj, modsC_head _ _ _ hy, runF_rep, if_neg (by cases b <;> simp), ← modsC_head _ _ _ hy, ih]
    congr 1; omega

theorem modsC_last : ∀ (zs : List Int) (b : Bool), (∀ z ∈ zs, 1 ≤ z) → zs ≠ [] → (modsC b zs).getLast? = some (if zs.length % 2 = 1 then b else !b)
  | [], _, _, h => absurd rfl h
  | [z], b, h, _ => by
    have hz := h z (by simp)
    obtain ⟨j, hj⟩ : ∃ j, z.toNat = j + 1 := ⟨z.toNat - 1, by omega⟩
    simp only [modsC, List.append_nil]
    rw [hj, List.replicate_succ']; simp
  | z :: y :: r, b, h, _ => by
    have ih := modsC_last (y :: r) (!b) (fun q hq => h q (List.mem_cons_of_mem _ hq)) (by simp)
    rw [modsC, List.getLast?_append, ih]
    simp only [List.length_cons, Option.some_or]
    congr 1
    rcases Nat.mod_two_eq_zero_or_one r.length with e | e
    · rw [if_pos (by omega), if_neg (by omega)]
    · rw [if_neg (by omega), if_pos (by omega)]; simp

theorem leadF_rep : ∀ (j m : Nat) (t : List Bool), leadF m (List.replicate j false ++ t) = leadF (m + j) t := by
  intro j
  induction j with
  | zero => intro m t; simp
  | succ j ihj => intro m t; rw [List.replicate_succ, List.cons_append, leadF]; simp only [Bool.false_eq_true, if_false]; rw [ihj, show m + 1 + j = m + (j + 1) by omega]

/-- The margins and the widths of modules between two quiet zones. -/
theorem quiet_widths (zs : List Int) (h : ∀ z ∈ zs, 1 ≤ z) (ho : zs.length % 2 = 1) :
    marg (List.replicate 10 false ++ modsI 0 zs ++ List.replicate 10 false) = (10, 10) ∧ widths (List.replicate 10 false ++ modsI 0 zs ++ List.replicate 10 false) = zs ∧ 0 < (modsI 0 zs).length := by
  have hne : zs ≠ [] := by rintro rfl; simp at ho
  have hm : modsI 0 zs = modsC true zs := modsI_eq zs 0
  rw [hm]
  have hlast := modsC_last zs true h hne
  rw [if_pos ho] at hlast
  obtain ⟨z, r, rfl⟩ := List.exists_cons_of_ne_nil hne
  have hhead := modsC_head true z r (h z (by simp))
  have hrun := runF_mods (z :: r) true h
  generalize modsC true (z :: r) = M at *
  have hrev : ∃ t, M.reverse = true :: t := by
    rw [List.getLast?_eq_head?_reverse] at hlast
    cases hr : M.reverse with
    | nil => rw [hr] at hlast; simp at hlast
    | cons x t => rw [hr] at hlast; simp at hlast; subst hlast; exact ⟨t, rfl⟩
  obtain ⟨t, ht⟩ := hrev
  have hpos : 0 < M.length := by rw [hhead]; simp
  have hmarg : marg (List.replicate 10 false ++ M ++ List.replicate 10 false) = (10, 10) := by
    unfold marg
    congr 1
    · rw [List.append_assoc, leadF_rep, hhead, List.cons_append, leadF]; simp
    · rw [List.reverse_append, List.reverse_append, List.reverse_replicate, leadF_rep, ht, List.cons_append, leadF]; simp
  refine ⟨hmarg, ?_, hpos⟩
  unfold widths core
  rw [hmarg]
  simp only
  have e : (List.replicate 10 false ++ M ++ List.replicate 10 false).length - 10 = (List.replicate 10 false ++ M).length := by simp
  rw [e, List.take_left']
  · rw [List.drop_left' (by simp)]; exact hrun
  · rfl

theorem wid_all : ∀ v, v < 106 → findA (widL v) = some (v : Int) ∧ (widL v).length = 6 ∧ sumI (widL v) = 11 := by decide +kernel
theorem wid_stop : sumI (widL 106) = 13 ∧ (widL 106).length = 7 ∧ (widL 106).all (fun x => decide (1 ≤ x) && decide (x ≤ 4)) = true := by decide +kernel

theorem sumI_append : ∀ (a b : List Int), sumI (a ++ b) = sumI a + sumI b
  | [], b => by simp [sumI]
  | x :: a, b => by simp [sumI, sumI_append a b]; omega

theorem pats_append : ∀ (a b : List Int), patsF (a ++ b) = patsF a ++ patsF b
  | [], b => rfl
  | x :: a, b => by simp [patsF, pats_append a b]

theorem pats_facts : ∀ (vs : List Int), (∀ v ∈ vs, 0 ≤ v ∧ v ≤ 105) → (patsF vs).length = 6 * vs.length ∧ sumI (patsF vs) = 11 * vs.length ∧ (∀ z ∈ patsF vs, 1 ≤ z ∧ z ≤ 4)
  | [], _ => by simp [patsF, sumI]
  | v :: r, h => by
    obtain ⟨h1, h2, h3⟩ := pats_facts r (fun q hq => h q (by simp [hq]))
    have hv := h v (by simp)
    obtain ⟨_, w2, w3⟩ := wid_all v.toNat (by omega)
    have w4 := widL_small v.toNat (by omega)
    refine ⟨by simp [patsF, h1, w2]; omega, by rw [patsF, sumI_append, h2, w3]; simp; omega, ?_⟩
    intro z hz
    rw [patsF, List.mem_append] at hz
    rcases hz with hz | hz
    · have := List.all_eq_true.1 w4 z hz; simpa using this
    · exact h3 z hz

theorem dec_pats : ∀ (vs t acc : List Int), (∀ v ∈ vs, 0 ≤ v ∧ v ≤ 105) → decL vs.length (patsF vs ++ t) acc = some (acc ++ vs)
  | [], t, acc, _ => by simp [decL, decG]
  | v :: r, t, acc, h => by
    have hv := h v (by simp)
    obtain ⟨w1, w2, _⟩ := wid_all v.toNat (by omega)
    have e1 : ((patsF (v :: r)) ++ t).take 6 = widL v.toNat := by
      rw [patsF, List.append_assoc, List.take_left' w2]
    have e2 : ((patsF (v :: r)) ++ t).drop 6 = patsF r ++ t := by
      rw [patsF, List.append_assoc, List.drop_left' w2]
    have hstep : decL (r.length + 1) (patsF (v :: r) ++ t) acc = decL r.length ((patsF (v :: r) ++ t).drop 6) (acc ++ [(v.toNat : Int)]) := decL_some (by rw [e1]; exact w1)
    rw [List.length_cons, hstep, e2, dec_pats r t _ (fun q hq => h q (by simp [hq])), Int.toNat_of_nonneg hv.1]
    simp

theorem inR_of : ∀ (zs : List Int), (∀ z ∈ zs, 1 ≤ z ∧ z ≤ 4) → inR zs = true
  | [], _ => rfl
  | x :: r, h => by
    unfold inR
    have hx := h x (by simp)
    rw [if_neg (by omega)]
    exact inR_of r (fun z hz => h z (by simp [hz]))

/-- Encode, where the characters are good, and Decode of it. -/
theorem encode_decode {cs : List Int} (h0 : cs.length ≠ 0) (hb : badC cs = false) (hn : cs.length ≤ 4096) (hl : (seqF cs).length ≤ 2000) : (encodeF cs).2 = 0 ∧ decF (encodeF cs).1 = (cs, 0) := by
  have hv : valuesF cs = (seqF cs ++ [chkL (seqF cs), 106], 0) := by
    unfold valuesF; rw [if_neg h0, if_neg (by omega), if_neg (by rw [hb]; simp)]
  have hck := chkF_range (seqF cs) 0 ((seqF cs).getD 0 0) (seq_ne cs)
  have hck' : 0 ≤ chkL (seqF cs) ∧ chkL (seqF cs) < 103 := hck
  have hmem : ∀ v ∈ seqF cs ++ [chkL (seqF cs)], 0 ≤ v ∧ v ≤ 105 := by
    intro v hv
    simp only [List.mem_append, List.mem_cons, List.not_mem_nil, or_false] at hv
    rcases hv with hv | rfl
    · exact seq_mem hb (by omega) v hv
    · omega
  have hcv := chars_values hb (by omega)
  have hl1 : 1 ≤ (seqF cs).length := List.length_pos_iff.2 (seq_ne cs)
  generalize seqF cs = S at *
  generalize chkL S = ck at *
  have hps : patsF (S ++ [ck, 106]) = patsF (S ++ [ck]) ++ widL 106 := by
    rw [show S ++ [ck, 106] = (S ++ [ck]) ++ [106] by simp, pats_append]
    simp [patsF]
  obtain ⟨f1, f2, f3⟩ := pats_facts (S ++ [ck]) hmem
  obtain ⟨s1, s2, s3⟩ := wid_stop
  have hall : ∀ z ∈ patsF (S ++ [ck]) ++ widL 106, 1 ≤ z ∧ z ≤ 4 := by
    intro z hz
    rw [List.mem_append] at hz
    rcases hz with hz | hz
    · exact f3 z hz
    · have := List.all_eq_true.1 s3 z hz; simpa using this
  have hlen : (patsF (S ++ [ck]) ++ widL 106).length = 6 * (S.length + 1) + 7 := by rw [List.length_append, f1, s2]; simp
  have hodd : (patsF (S ++ [ck]) ++ widL 106).length % 2 = 1 := by rw [hlen]; omega
  have hsum : sumI (patsF (S ++ [ck]) ++ widL 106) = 11 * (S.length + 1) + 13 := by rw [sumI_append, f2, s1]; simp
  have hin := inR_of _ hall
  have hmod : modules (patsF (S ++ [ck]) ++ widL 106) = (modsI 0 (patsF (S ++ [ck]) ++ widL 106), 0) := by
    unfold modules
    rw [if_neg (by omega), if_neg (by omega), if_neg (by rw [hin]; simp), if_neg (by omega)]
  have hml := modsI_length _ 0 hin
  obtain ⟨q1, q2, q3⟩ := quiet_widths _ (fun z hz => (hall z hz).1) hodd
  have henc : encodeF cs = (List.replicate 10 false ++ modsI 0 (patsF (S ++ [ck]) ++ widL 106) ++ List.replicate 10 false, 0) := by
    unfold encodeF
    rw [hv]
    simp only
    rw [hps, hmod]
    simp only [ne_eq, not_true_eq_false, if_false]
    rw [if_neg (by omega)]
  rw [henc]
  refine ⟨rfl, ?_⟩
  unfold decF
  rw [q1, q2]
  simp only
  rw [if_neg (by simp), if_neg (by omega), if_neg (by omega), hlen]
  have hdr : (patsF (S ++ [ck]) ++ widL 106).drop (6 * (S.length + 1) + 7 - 7) = widL 106 := List.drop_left' (by rw [f1]; simp)
  rw [hdr, if_neg (by simp), show (6 * (S.length + 1) + 7 - 7) / 6 = (S ++ [ck]).length by simp, dec_pats _ _ _ hmem]
  simp only [List.nil_append]
  rw [show S ++ [ck] ++ [106] = S ++ [ck, 106] by simp]
  exact hcv

/-- Staying in the code set A, a character takes at most two values. -/
theorem row_two (cs : List Int) : ∀ (d : Nat), d ≤ cs.length → (rowAt cs (cs.length - d)).a0 ≤ 2 * d
  | 0, _ => by rw [rowAt_end cs _ (by omega)]; simp [R6.zero]
  | d + 1, h => by
    have ih := row_two cs d (by omega)
    rw [rowAt_step cs _ (by omega), show cs.length - (d + 1) + 1 = cs.length - d by omega]
    have hm := @mn_le (usedF cs (cs.length - (d + 1)) 0 (rowAt cs (cs.length - d)).a0 (rowAt cs (cs.length - d)).a1 (rowAt cs (cs.length - d)).a2 (rowAt cs (cs.length - (d + 1) + 2)).a2) (usedF cs (cs.length - (d + 1)) 0 (rowAt cs (cs.length - d)).a0 (rowAt cs (cs.length - d)).a1 (rowAt cs (cs.length - d)).a2 (rowAt cs (cs.length - (d + 1) + 2)).a2) (usedF cs (cs.length - (d + 1)) 1 (rowAt cs (cs.length - d)).a0 (rowAt cs (cs.length - d)).a1 (rowAt cs (cs.length - d)).a2 (rowAt cs (cs.length - (d + 1) + 2)).a2) (usedF cs (cs.length - (d + 1)) 2 (rowAt cs (cs.length - d)).a0 (rowAt cs (cs.length - d)).a1 (rowAt cs (cs.length - d)).a2 (rowAt cs (cs.length - (d + 1) + 2)).a2)
    have hu : usedF cs (cs.length - (d + 1)) 0 (rowAt cs (cs.length - d)).a0 (rowAt cs (cs.length - d)).a1 (rowAt cs (cs.length - d)).a2 (rowAt cs (cs.length - (d + 1) + 2)).a2 ≤ 2 + (rowAt cs (cs.length - d)).a0 := by
      unfold usedF; simp only [show ¬ ((0 : Int) = 2) by omega, if_false, if_true]; split <;> omega
    have := hm.1
    show mn _ _ _ _ ≤ _
    omega

theorem seq_len_two {cs : List Int} (hb : badC cs = false) (hn : cs.length ≤ 5000) : (seqF cs).length ≤ 2 * cs.length + 1 := by
  have hs := start_range hb hn
  obtain ⟨f, hf, he⟩ := seq_parts hb hn
  have hl := (go_mem hb hn f 0 _ (by omega) (by omega) (by omega) hf).2
  have h2 := row_two cs cs.length (Nat.le_refl _)
  rw [Nat.sub_self] at h2
  obtain ⟨_, _, g2, g3, g4⟩ := costs_good cs hn (badC_ok hb) 0 (by omega)
  have hfle : (f : Int) ≤ (rowAt cs 0).a0 := by
    unfold startF at hf
    have g2' : costsF cs 0 2 = some (rowAt cs 0).a0 := g2
    have g3' : costsF cs 0 3 = some (rowAt cs 0).a1 := g3
    have g4' : costsF cs 0 4 = some (rowAt cs 0).a2 := g4
    have hf' : costsF cs 0 ((let s1 := if (costsF cs 0 3).getD 0 < (costsF cs 0 2).getD 0 then 104 else 103; if (costsF cs 0 4).getD 0 < (costsF cs 0 (s1 - 101)).getD 0 then 105 else s1) - 101) = some (f : Int) := hf
    simp only [g2', g3', g4', Option.getD_some] at hf'
    generalize (rowAt cs 0).a0 = x0 at *
    generalize (rowAt cs 0).a1 = x1 at *
    generalize (rowAt cs 0).a2 = x2 at *
    by_cases c1 : x1 < x0
    · simp only [if_pos c1, show (104 : Int) - 101 = 3 by omega, g3', Option.getD_some] at hf'
      by_cases c2 : x2 < x1
      · simp only [if_pos c2, show (105 : Int) - 101 = 4 by omega, g4', Option.some.injEq] at hf'; omega
      · simp only [if_neg c2, show (104 : Int) - 101 = 3 by omega, g3', Option.some.injEq] at hf'; omega
    · simp only [if_neg c1, show (103 : Int) - 101 = 2 by omega, g2', Option.getD_some] at hf'
      by_cases c2 : x2 < x0
      · simp only [if_pos c2, show (105 : Int) - 101 = 4 by omega, g4', Option.some.injEq] at hf'; omega
      · simp only [if_neg c2, show (103 : Int) - 101 = 2 by omega, g2', Option.some.injEq] at hf'; omega
  rw [he]
  simp only [List.length_cons, hl]
  omega

end Go.Proofs.Ytofedeokliljkaa
