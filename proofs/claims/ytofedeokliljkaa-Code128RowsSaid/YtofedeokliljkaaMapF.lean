/-
  A map with integer elements that the call itself made, seen as a function from keys: look-up and store. No condition.
-/
import Derived.Maps.Own
import Derived.Maps.OwnOps
import Derived.WalkKit
import Derived.DeepKeys4
import Derived.Test.YtofedeokliljkaaProg
namespace Go.Proofs.Ytofedeokliljkaa
open Go.RowKit Go.Maps

/-- Block b is a map that reads as f. -/
def MapF (P : Program) (k : TypeId) (w : World) (b : Nat) (f : Value → Option Value) : Prop :=
  ∃ (es : Array MapEntry) (clock : Nat), w.heap[b]? = some (.map es clock) ∧ (∀ e ∈ es.toList, ∃ l, keyOf P k e.key = some l) ∧ (∀ e ∈ es.toList, f e.key = some e.val) ∧
    (∀ v x, f v = some x → ∃ e ∈ es.toList, e.key = v) ∧ (∀ (i j : Nat) (e e' : MapEntry), es.toList[i]? = some e → es.toList[j]? = some e' → e.key = e'.key → i = j)

theorem MapF.new {P : Program} {k : TypeId} (w : World) : MapF P k (w.alloc (.map #[] 0)) w.heap.size (fun _ => none) :=
  ⟨#[], 0, by show (w.heap.push _)[w.heap.size]? = _; simp, by simp, by simp, by simp, by simp⟩

theorem MapF.kept {P : Program} {k : TypeId} {w w' : World} {b : Nat} {f : Value → Option Value} (h : MapF P k w b f) (hb : w'.heap[b]? = w.heap[b]?) : MapF P k w' b f := by
  obtain ⟨es, clock, h1, h2⟩ := h
  exact ⟨es, clock, hb.trans h1, h2⟩

theorem MapF.lt {P : Program} {k : TypeId} {w : World} {b : Nat} {f : Value → Option Value} (h : MapF P k w b f) : b < w.heap.size := by
  obtain ⟨es, clock, h1, _⟩ := h
  exact (Array.getElem?_eq_some_iff.1 h1).1

theorem MapF.below {P : Program} {k : TypeId} {w w' : World} {b : Nat} {f : Value → Option Value} (h : MapF P k w b f) (hb : Below w.heap.size w w') : MapF P k w' b f := h.kept (hb.block b h.lt)

theorem MapF.look {P : Program} {k e t : TypeId} (K : Keyed P k) (ht : P.underlying t = some (.map k e)) {w : World} {b : Nat} {f : Value → Option Value} (h : MapF P k w b f) {z : Value} (hz : (zeroValue e).run P w = .ok z w)
    {key : Value} {kl : Lit} (hkey : keyOf P k key = some kl) (c : Bool) :
    (Instr.lookup t (.map (some b)) key c).run P w = .ok (if c then .tuple #[(f key).getD z, .bool (f key).isSome] else (f key).getD z) w := by
  obtain ⟨es, clock, hb, hks, hf, hex, _⟩ := h
  rcases K.find w hkey es.toList hks with ⟨h1, h2⟩ | ⟨j, e0, h1, h2, h3⟩
  · have hn : f key = none := by
      cases hfk : f key with
      | none => rfl
      | some x =>
        obtain ⟨e1, he1, ek⟩ := hex key x hfk
        exact absurd ek (h2 e1 he1)
    rw [hn]
    simp [Instr.lookup, run_underlying ht, MapKept.run_getObj_map hb, K.check w _ hkey, h1, hz, Result.andThen]
  · have hs : f key = some e0.val := by rw [← h3]; exact hf e0 (List.mem_of_getElem? h2)
    rw [hs]
    simp [Instr.lookup, run_underlying ht, MapKept.run_getObj_map hb, K.check w _ hkey, h1, Result.andThen]

open Classical in
/-- The function with one key set. -/
noncomputable def upd (f : Value → Option Value) (key x : Value) : Value → Option Value := fun v => if v = key then some x else f v

theorem MapF.store {P : Program} {k e t : TypeId} (K : Keyed P k) (ht : P.underlying t = some (.map k e)) {w : World} {b : Nat} {f : Value → Option Value} (h : MapF P k w b f)
    {key : Value} {kl : Lit} (hkey : keyOf P k key = some kl) (x : Value) :
    ∃ w', (Instr.mapUpdate t (.map (some b)) key x).run P w = .ok () w' ∧ MapF P k w' b (upd f key x) ∧ w.grownBy w' (some b) := by
  obtain ⟨es, clock, hb, hks, hf, hex, hu⟩ := h
  have hbl : b < w.heap.size := (Array.getElem?_eq_some_iff.1 hb).1
  have hgr : ∀ o : Obj, w.grownBy { w with heap := w.heap.setIfInBounds b o } (some b) := fun o =>
    ⟨rfl, rfl, rfl, by simp, fun i hi hne => by
      show (w.heap.setIfInBounds b o)[i]? = _
      rw [Array.getElem?_setIfInBounds_ne (fun e => hne (by rw [e]))]⟩
  rcases K.find w hkey es.toList hks with ⟨h1, h2⟩ | ⟨j, e0, h1, h2, h3⟩
  · refine ⟨{ w with heap := w.heap.setIfInBounds b (.map (es.push { key, val := x, born := clock }) (clock + 1)) }, ?_, ?_, hgr _⟩
    · simp [Instr.mapUpdate, run_underlying ht, MapKept.run_getObj_map hb, K.check w false hkey, h1, MapKept.run_setObj_map _ hb, Result.andThen]
    · refine ⟨es.push { key, val := x, born := clock }, clock + 1, ?_, ?_, ?_, ?_, ?_⟩
      · show (w.heap.setIfInBounds b _)[b]? = _
        rw [Array.getElem?_setIfInBounds_self_of_lt hbl]
      · intro e1 he1
        rw [Array.toList_push, List.mem_append] at he1
        rcases he1 with he1 | he1
        · exact hks e1 he1
        · simp at he1; subst he1; exact ⟨_, hkey⟩
      · intro e1 he1
        rw [Array.toList_push, List.mem_append] at he1
        rcases he1 with he1 | he1
        · unfold upd; rw [if_neg (h2 e1 he1)]; exact hf e1 he1
        · simp at he1; subst he1; simp [upd]
      · intro v y hv
        rw [Array.toList_push]
        unfold upd at hv
        split at hv
        · rename_i e; exact ⟨_, by simp; exact .inr rfl, e.symm⟩
        · obtain ⟨e1, he1, ek⟩ := hex v y hv
          exact ⟨e1, by simp at he1 ⊢; exact .inl he1, ek⟩
      · intro i i' e1 e2 hi hi' ek
        rw [Array.toList_push] at hi hi'
        have hlast : ∀ (i : Nat) (e1 : MapEntry), (es.toList ++ [{ key, val := x, born := clock }])[i]? = some e1 → (i < es.toList.length ∧ es.toList[i]? = some e1) ∨ (i = es.toList.length ∧ e1.key = key) := by
          intro i e1 h
          rcases Nat.lt_or_ge i es.toList.length with h' | h'
          · left; rw [List.getElem?_append_left h'] at h; exact ⟨h', h⟩
          · right
            rw [List.getElem?_append_right h'] at h
            have : i - es.toList.length = 0 := by
              rcases Nat.eq_zero_or_pos (i - es.toList.length) with h0 | h0
              · exact h0
              · rw [List.getElem?_eq_none (by simp only [List.length_cons, List.length_nil]; omega)] at h; cases h
            rw [this] at h
            simp at h
            exact ⟨by omega, by rw [← h]⟩
        rcases hlast i e1 hi with ⟨_, q1⟩ | ⟨q1, r1⟩ <;> rcases hlast i' e2 hi' with ⟨_, q2⟩ | ⟨q2, r2⟩
        · exact hu i i' e1 e2 q1 q2 ek
        · exact absurd (ek.trans r2) (h2 e1 (List.mem_of_getElem? q1))
        · exact absurd (ek.symm.trans r1) (h2 e2 (List.mem_of_getElem? q2))
        · omega
  · have hj : j < es.size := by
      rcases Nat.lt_or_ge j es.toList.length with h' | h'
      · simpa using h'
      · rw [List.getElem?_eq_none h'] at h2; cases h2
    have hej : es[j]? = some e0 := by rw [← Array.getElem?_toList]; exact h2
    have hst := K.stays w hkey
    have hget : ∀ (i : Nat) (e1 : MapEntry), (es.modify j fun e => { e with key := key, val := x }).toList[i]? = some e1 → (i = j ∧ e1.key = key ∧ e1.val = x) ∨ (i ≠ j ∧ es.toList[i]? = some e1) := by
      intro i e1 h
      rw [Array.getElem?_toList, Array.getElem?_modify] at h
      by_cases e : j = i
      · subst e
        rw [if_pos rfl, hej] at h
        simp at h
        left; rw [← h]; exact ⟨rfl, rfl, rfl⟩
      · rw [if_neg e] at h
        right; exact ⟨fun e' => e e'.symm, by rw [Array.getElem?_toList]; exact h⟩
    have hgj : (es.modify j fun e => { e with key := key, val := x }).toList[j]? = some { e0 with key := key, val := x } := by
      rw [Array.getElem?_toList, Array.getElem?_modify, if_pos rfl, hej]; rfl
    have hgo : ∀ i, i ≠ j → (es.modify j fun e => { e with key := key, val := x }).toList[i]? = es.toList[i]? := by
      intro i hi
      rw [Array.getElem?_toList, Array.getElem?_modify, if_neg (fun e => hi e.symm), Array.getElem?_toList]
    refine ⟨{ w with heap := w.heap.setIfInBounds b (.map (es.modify j fun e => { e with key := key, val := x }) clock) }, ?_, ?_, hgr _⟩
    · simp [Instr.mapUpdate, run_underlying ht, MapKept.run_getObj_map hb, K.check w false hkey, h1, hej, h3, hst, MapKept.run_setObj_map _ hb, Result.andThen]
    · refine ⟨es.modify j fun e => { e with key := key, val := x }, clock, ?_, ?_, ?_, ?_, ?_⟩
      · show (w.heap.setIfInBounds b _)[b]? = _
        rw [Array.getElem?_setIfInBounds_self_of_lt hbl]
      · intro e1 he1
        obtain ⟨i, hi⟩ := List.mem_iff_getElem?.1 he1
        rcases hget i e1 hi with ⟨_, q, _⟩ | ⟨_, q⟩
        · rw [q]; exact ⟨_, hkey⟩
        · exact hks e1 (List.mem_of_getElem? q)
      · intro e1 he1
        obtain ⟨i, hi⟩ := List.mem_iff_getElem?.1 he1
        rcases hget i e1 hi with ⟨_, q, r⟩ | ⟨hne, q⟩
        · unfold upd; rw [if_pos q, r]
        · have hk : e1.key ≠ key := fun e => hne (hu i j e1 e0 q h2 (e.trans h3.symm))
          unfold upd; rw [if_neg hk]; exact hf e1 (List.mem_of_getElem? q)
      · intro v y hv
        unfold upd at hv
        split at hv
        · rename_i e; exact ⟨_, List.mem_of_getElem? hgj, e.symm⟩
        · rename_i hne
          obtain ⟨e1, he1, ek⟩ := hex v y hv
          obtain ⟨i, hi⟩ := List.mem_iff_getElem?.1 he1
          have hij : i ≠ j := by
            rintro rfl
            rw [h2] at hi; cases hi
            exact hne (ek.symm.trans h3)
          exact ⟨e1, List.mem_of_getElem? ((hgo i hij).trans hi), ek⟩
      · intro i i' e1 e2 hi hi' ek
        rcases hget i e1 hi with ⟨q1, r1, _⟩ | ⟨q1, r1⟩ <;> rcases hget i' e2 hi' with ⟨q2, r2, _⟩ | ⟨q2, r2⟩
        · omega
        · exact absurd (hu i' j e2 e0 r2 h2 (ek.symm.trans (r1.trans h3.symm))) q2
        · exact absurd (hu i j e1 e0 r1 h2 (ek.trans (r2.trans h3.symm))) q1
        · exact hu i i' e1 e2 r1 r2 ek

theorem laidOut13 : laidOutB Try.prog = true := by kernel_rfl
theorem law57 : Keyed Try.prog 57 := Keyed.of_law (deep_law_laid laidOut13 (m := 20) (by decide) (by decide +kernel) (by kernel_rfl) (by kernel_rfl))
theorem law52 : Keyed Try.prog 52 := Keyed.of_law (deep_law_laid laidOut13 (m := 20) (by decide) (by decide +kernel) (by kernel_rfl) (by kernel_rfl))

theorem lits3 (d : Nat) (x : Int) (hx : (Lit.int .i64 x).wf = true) : Try.prog.keyLits (d + 1) 3 [.int .i64 x] = some [.int .i64 x] := by
  simp [Program.keyLits, Try.underlying3, hx]

theorem key57 (x y : Int) (hx : (Lit.int .i64 x).wf = true) (hy : (Lit.int .i64 y).wf = true) : ∃ l, keyOf Try.prog 57 (.agg #[.int .i64 x, .int .i64 y]) = some l := by
  have c57 : Try.prog.cellsOf 57 = 2 := by kernel_rfl
  have c3 : Try.prog.cellsOf 3 = 1 := by kernel_rfl
  have kt : Try.prog.keyType 57 = true := by kernel_rfl
  have hl : Try.prog.keyLits 93 57 [.int .i64 x, .int .i64 y] = some [.int .i64 x, .int .i64 y] := by
    have l1 : Try.prog.keyLits 92 3 [.int .i64 x] = some [.int .i64 x] := lits3 91 x hx
    have l2 : Try.prog.keyLits 92 3 [.int .i64 y] = some [.int .i64 y] := lits3 91 y hy
    rw [show (93 : Nat) = 92 + 1 from rfl, Program.keyLits.eq_def]
    simp only [Try.underlying57]
    rw [if_pos ⟨by rw [c57]; rfl, by kernel_rfl⟩]
    simp [c3, l1, l2]
  refine ⟨.string (keyBytes [.int .i64 x, .int .i64 y]), ?_⟩
  unfold keyOf
  rw [Try.underlying57]
  simp only
  rw [if_pos (by rw [kt]; simp [Value.formed, Try.underlying57, c57])]
  show Option.map _ (Try.prog.keyLits 93 57 [.int .i64 x, .int .i64 y]) = _
  rw [hl]; rfl

end Go.Proofs.Ytofedeokliljkaa
