/-
  Plain: Encode, pattern by pattern. No condition.
-/
import Derived.Test.YtofedeokliljkaaPlainJ
namespace Go.Proofs.Ytofedeokliljkaa

/-- The modules of the patterns of values. -/
def rowM : List Int → List Bool
  | [] => []
  | v :: r => modsI 0 (widL v.toNat) ++ rowM r

theorem modsI_append : ∀ (a b : List Int) (i : Nat), modsI i (a ++ b) = modsI i a ++ modsI (i + a.length) b
  | [], b, i => rfl
  | x :: r, b, i => by
    show _ ++ modsI (i + 1) (r ++ b) = (_ ++ modsI (i + 1) r) ++ modsI (i + (r.length + 1)) b
    rw [modsI_append r b (i + 1), List.append_assoc, show i + 1 + r.length = i + (r.length + 1) by omega]

theorem modsI_even (zs : List Int) (i : Nat) (h : i % 2 = 0) : modsI i zs = modsI 0 zs := by
  rw [modsI_eq, modsI_eq, h]

theorem rowM_eq : ∀ (vs t : List Int), (∀ v ∈ vs, 0 ≤ v ∧ v ≤ 105) → modsI 0 (patsF vs ++ t) = rowM vs ++ modsI 0 t
  | [], t, _ => rfl
  | v :: r, t, h => by
    have hv := h v (by simp)
    have hw := (wid_all v.toNat (by omega)).2.1
    show modsI 0 ((widL v.toNat ++ patsF r) ++ t) = (modsI 0 (widL v.toNat) ++ rowM r) ++ modsI 0 t
    rw [List.append_assoc, modsI_append, hw, modsI_even _ (0 + 6) (by omega), rowM_eq r t (fun x hx => h x (by simp [hx])), List.append_assoc]

theorem rowM_append : ∀ (a b : List Int), rowM (a ++ b) = rowM a ++ rowM b
  | [], b => rfl
  | x :: r, b => by
    show modsI 0 (widL x.toNat) ++ rowM (r ++ b) = (modsI 0 (widL x.toNat) ++ rowM r) ++ rowM b
    rw [rowM_append r b, List.append_assoc]

theorem encode_ref (cs : List Int) : encodeF cs = if (valuesF cs).2 ≠ 0 then ([], (valuesF cs).2) else if 65536 < 11 * ((valuesF cs).1.length : Int) + 22 then ([], 4)
    else (List.replicate 10 false ++ rowM (valuesF cs).1 ++ List.replicate 10 false, 0) := by
  unfold encodeF
  by_cases hv : (valuesF cs).2 ≠ 0
  · rw [if_pos hv, if_pos hv]
  rw [if_neg hv, if_neg hv]
  have hform : ∃ vs : List Int, (valuesF cs).1 = vs ++ [106] ∧ ∀ v ∈ vs, 0 ≤ v ∧ v ≤ 105 := by
    revert hv
    unfold valuesF
    split
    · simp
    split
    · simp
    split
    · simp
    rename_i h1 h2 h3
    intro _
    have hb : badC cs = false := by simpa using h3
    refine ⟨seqF cs ++ [chkL (seqF cs)], by simp, fun v hv => ?_⟩
    rw [List.mem_append] at hv
    rcases hv with hv | hv
    · exact seq_mem hb (by omega) v hv
    · simp at hv
      subst hv
      have := chkF_range (seqF cs) 0 ((seqF cs).getD 0 0) (seq_ne cs)
      unfold chkL; omega
  obtain ⟨vs, e, hm⟩ := hform
  rw [e]
  obtain ⟨p1, p2, p3⟩ := pats_facts vs hm
  obtain ⟨s1, s2, s3⟩ := wid_stop
  have hp : patsF (vs ++ [106]) = patsF vs ++ widL 106 := by rw [pats_append]; show patsF vs ++ (widL 106 ++ []) = _; rw [List.append_nil]
  have hlen : (patsF vs ++ widL 106).length = 6 * vs.length + 7 := by rw [List.length_append, p1, s2]
  have hsum : sumI (patsF vs ++ widL 106) = 11 * vs.length + 13 := by rw [sumI_append, p2, s1]
  have hin : inR (patsF vs ++ widL 106) = true := inR_of _ fun z hz => by
    rw [List.mem_append] at hz
    rcases hz with hz | hz
    · exact p3 z hz
    · have := List.all_eq_true.1 s3 z hz
      simpa using this
  have hmods : modsI 0 (patsF vs ++ widL 106) = rowM (vs ++ [106]) := by
    rw [rowM_eq vs _ hm, rowM_append]
    show _ = rowM vs ++ (modsI 0 (widL 106) ++ [])
    rw [List.append_nil]
  have hml := modsI_length (patsF vs ++ widL 106) 0 hin
  have hmod : modules (patsF vs ++ widL 106) = if 65536 < sumI (patsF vs ++ widL 106) then ([], 4) else (modsI 0 (patsF vs ++ widL 106), 0) := by
    unfold modules
    rw [if_neg (by omega), if_neg (by omega), if_neg (by rw [hin]; simp)]
  rw [hp, hmod]
  by_cases hbig : 65536 < sumI (patsF vs ++ widL 106)
  · rw [if_pos hbig, if_pos (by simp), if_pos (by simp; omega)]
  · rw [if_neg hbig, if_neg (by simp)]
    simp only
    rw [hmods] at hml ⊢
    by_cases hl : 65536 < (rowM (vs ++ [106])).length + 20
    · rw [if_pos hl, if_pos (by simp; omega)]
    · rw [if_neg hl, if_neg (by simp; omega)]

end Go.Proofs.Ytofedeokliljkaa
