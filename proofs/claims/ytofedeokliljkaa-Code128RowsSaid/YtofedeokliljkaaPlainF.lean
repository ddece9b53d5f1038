/-
  Plain: the values that Values returns are code values; what Encode computes.
-/
import Derived.Test.YtofedeokliljkaaWalkZ
namespace Go.Proofs.Ytofedeokliljkaa
set_option linter.unusedVariables false


/-- One step of the sequence. -/
theorem go_step {cs : List Int} (hb : badC cs = false) (hn : cs.length ≤ 5000) {f k : Nat} {st : Int} (hk : k ≤ cs.length) (h0 : 0 ≤ st) (h4 : st ≤ 4) (hf : costsF cs k st = some ((f + 1 : Nat) : Int)) :
    k < cs.length ∧ ∃ (m : Mv) (j : Nat), pickF (costsF cs) ((f : Int) + 1) (movesL cs k st) = some m ∧ m ∈ movesL cs k st ∧ m.at_ = j ∧ k ≤ j ∧ j ≤ cs.length ∧ 0 ≤ m.st ∧ m.st ≤ 4 ∧ costsF cs j m.st = some (f : Int) ∧
      goF cs (costsF cs) (f + 1) k st = m.v :: goF cs (costsF cs) f j m.st ∧ ∀ q ∈ movesL cs k st, hits (costsF cs) ((f : Int) + 1) q → m.v ≤ q.v := by
  have hlt : k < cs.length := by
    rcases Nat.lt_or_ge k cs.length with h | h
    · exact h
    · have := end_zero hb hn hk h h0 h4 hf; omega
  refine ⟨hlt, ?_⟩
  have hf' : costsF cs k st = some ((f : Int) + 1) := by rw [hf]; congr 1
  obtain ⟨_, m, hp, hm, hh, hmin⟩ := next_ok hn (badC_ok hb) hlt h0 h4 hf'
  obtain ⟨j, e1, e2, e3, e4, e5⟩ := moves_nat hlt h0 h4 hm
  refine ⟨m, j, hp, hm, e1, e2, e3, e4, e5, ?_, ?_, hmin⟩
  · unfold hits at hh
    rw [e1] at hh
    rw [hh]; congr 1; omega
  · rw [goF, hp]
    simp only
    rw [e1, Int.toNat_natCast]

theorem go_mem {cs : List Int} (hb : badC cs = false) (hn : cs.length ≤ 5000) : ∀ (f k : Nat) (st : Int), k ≤ cs.length → 0 ≤ st → st ≤ 4 → costsF cs k st = some (f : Int) → (∀ v ∈ goF cs (costsF cs) f k st, 0 ≤ v ∧ v ≤ 102) ∧ (goF cs (costsF cs) f k st).length = f
  | 0, _, _, _, _, _, _ => by simp [goF]
  | f + 1, k, st, hk, h0, h4, hf => by
    obtain ⟨hlt, m, j, hp, hm, e1, e2, e3, e4, e5, hj, hg, _⟩ := go_step hb hn hk h0 h4 hf
    have ih := go_mem hb hn f j m.st e3 e4 e5 hj
    rw [hg]
    refine ⟨?_, by simp [ih.2]⟩
    intro v hv
    simp only [List.mem_cons] at hv
    rcases hv with rfl | hv
    · exact moves_val (badC_ok hb) hlt h0 h4 hm
    · exact ih.1 v hv

theorem start_range {cs : List Int} (hb : badC cs = false) (hn : cs.length ≤ 5000) : 103 ≤ startF (costsF cs) ∧ startF (costsF cs) ≤ 105 := by
  unfold startF
  simp only
  repeat' split
  all_goals omega

theorem seq_parts {cs : List Int} (hb : badC cs = false) (hn : cs.length ≤ 5000) : ∃ f : Nat, costsF cs (0 : Nat) (startF (costsF cs) - 101) = some (f : Int) ∧ seqF cs = startF (costsF cs) :: goF cs (costsF cs) f 0 (startF (costsF cs) - 101) := by
  have hs := start_range hb hn
  obtain ⟨f, hf⟩ := start_cost hb hn (st := startF (costsF cs) - 101) (by omega) (by omega)
  refine ⟨f, hf, ?_⟩
  unfold seqF
  have hf' : costsF cs 0 (startF (costsF cs) - 101) = some (f : Int) := hf
  rw [hf']; rfl

theorem seq_mem {cs : List Int} (hb : badC cs = false) (hn : cs.length ≤ 5000) : ∀ v ∈ seqF cs, 0 ≤ v ∧ v ≤ 105 := by
  have hs := start_range hb hn
  obtain ⟨f, hf, he⟩ := seq_parts hb hn
  rw [he]
  intro v hv
  simp only [List.mem_cons] at hv
  rcases hv with rfl | hv
  · omega
  · have := (go_mem hb hn f 0 _ (by omega) (by omega) (by omega) hf).1 v hv; omega

theorem seq_length {cs : List Int} (hb : badC cs = false) (hn : cs.length ≤ 5000) : (seqF cs).length ≤ 15001 := by
  have hs := start_range hb hn
  obtain ⟨f, hf, he⟩ := seq_parts hb hn
  have := start_bound hb hn (by omega) (by omega) hf
  rw [he]
  simp [(go_mem hb hn f 0 _ (by omega) (by omega) (by omega) hf).2]; omega

theorem seq_ne (cs : List Int) : seqF cs ≠ [] := by unfold seqF; simp

theorem values_mem (cs : List Int) : ∀ v ∈ (valuesF cs).1, 0 ≤ v ∧ v ≤ 106 := by
  unfold valuesF
  split
  · simp
  split
  · simp
  split
  · simp
  · rename_i h1 h2 h3
    have hb : badC cs = false := by simpa using h3
    intro v hv
    simp only [List.mem_append, List.mem_cons, List.not_mem_nil, or_false] at hv
    rcases hv with hv | rfl | rfl
    · have := seq_mem hb (by omega) v hv; omega
    · have := chkF_range (seqF cs) 0 ((seqF cs).getD 0 0) (seq_ne cs)
      unfold chkL; omega
    · omega

theorem values_length (cs : List Int) : (valuesF cs).1.length ≤ 15003 := by
  unfold valuesF
  split
  · simp
  split
  · simp
  split
  · simp
  · rename_i h1 h2 h3
    have hb : badC cs = false := by simpa using h3
    have := seq_length hb (by omega)
    simp; omega

def patsF : List Int → List Int
  | [] => []
  | v :: r => widL v.toNat ++ patsF r

/-- What Encode computes. -/
def encodeF (cs : List Int) : List Bool × Int :=
  if (valuesF cs).2 ≠ 0 then ([], (valuesF cs).2) else if (modules (patsF (valuesF cs).1)).2 ≠ 0 then ([], (modules (patsF (valuesF cs).1)).2)
  else if 65536 < (modules (patsF (valuesF cs).1)).1.length + 20 then ([], 4)
  else (List.replicate 10 false ++ (modules (patsF (valuesF cs).1)).1 ++ List.replicate 10 false, 0)

theorem modules_length (zs : List Int) : (modules zs).1.length ≤ 65536 := by
  unfold modules
  repeat' split
  all_goals try simp
  rename_i h1 h2 h3 h4
  have := modsI_length zs 0 (by simpa using h3)
  omega

end Go.Proofs.Ytofedeokliljkaa
