/-
  A map from integers to bytes that the call made, entry by entry; a range over it. No condition.
-/
import Derived.Test.YtifgpjhodajccaaPlainM
import Derived.Maps.Keyed
import Derived.Maps.OwnOps
import Derived.Maps.RangeRun
import Derived.Maps.RangeWalk
import Derived.Laws.BytesArg
import Derived.Shelf.Bytes.SlSmallAll
namespace Go.Proofs.Ytifgpjhodajccaa
open Go.RowKit Go.Maps

/-- The bytes that a slice's value reads as. -/
structure SlR (w : World) (v : Value) (xs : List Int) : Prop where
  ex : ∃ a c, v = .slice a xs.length c ∧ RdU w a xs.length xs ∧ xs.length ≤ c ∧ c ≤ 9223372036854775807 ∧ (a = none → c = 0)

theorem SlR.below {w w' : World} {v : Value} {xs : List Int} (h : SlR w v xs) (hb : Below w.heap.size w w') : SlR w' v xs := by
  obtain ⟨a, c, h1, h2, h3⟩ := h.ex
  exact ⟨a, c, h1, h2.below hb, h3⟩

theorem cell_of_map {w : World} {b : Nat} {es : Array MapEntry} {c : Nat} (hm : w.heap[b]? = some (.map es c)) (p : Addr) (hp : p.block = b) : w.cell? p = none := by
  unfold World.cell?
  rw [hp, hm]

theorem SlR.grown {w w' : World} {v : Value} {xs : List Int} {b c : Nat} {es : Array MapEntry} (h : SlR w v xs) (hm : w.heap[b]? = some (.map es c)) (hg : w.grownBy w' (some b)) : SlR w' v xs := by
  obtain ⟨a, cc, h1, h2, h3⟩ := h.ex
  refine ⟨a, cc, h1, ⟨h2.len, h2.le, fun k hk => ?_⟩, h3⟩
  obtain ⟨g, off, e, hc⟩ := h2.cell k hk
  refine ⟨g, off, e, ?_⟩
  have hne : g ≠ b := fun e => by rw [cell_of_map hm ⟨g, off + k, none⟩ e] at hc; cases hc
  rw [World.cell?_of_block (w := w) (hg.block g (lt_of_cell hc) (by simpa using hne)), hc]

theorem own_slr {w : World} {B : Nat} {v : Value} {xs : List Int} (h : w.ownsRow B 5 1 v xs.length (xs.map (Value.int .u8))) : SlR w v xs := by
  obtain ⟨a, c, e, hr⟩ := own_rd h
  refine ⟨a, c, e, hr, ?_⟩
  rcases h.2 with ⟨rfl, h0⟩ | ⟨g, cap, cur, rfl, _, _, h1, h2, _⟩
  · injection e with e1 e2 e3
    subst e3
    exact ⟨by omega, by omega, fun _ => rfl⟩
  · injection e with e1 e2 e3
    subst e3; subst e1
    exact ⟨h1, by unfold maxLen at h2; omega, fun h => by cases h⟩

structure MapB (w : World) (b : Nat) (L : Tab) : Prop where
  nd : (L.map (·.1)).Nodup
  kb : ∀ x ∈ L, 0 ≤ x.1 ∧ x.1 < 16
  es : ∃ es : Array MapEntry, w.heap[b]? = some (.map es L.length) ∧ es.size = L.length ∧ ∀ (i : Nat) (x : Int × List Int), L[i]? = some x → ∃ v, es[i]? = some ({ key := .int .i64 x.1, val := v, born := i } : MapEntry) ∧ SlR w v x.2

theorem MapB.lt {w : World} {b : Nat} {L : Tab} (h : MapB w b L) : b < w.heap.size := by
  obtain ⟨es, h1, _⟩ := h.es
  exact (Array.getElem?_eq_some_iff.1 h1).1

theorem MapB.below {w w' : World} {b : Nat} {L : Tab} (h : MapB w b L) (hb : Below w.heap.size w w') : MapB w' b L := by
  obtain ⟨es, h1, h2, h3⟩ := h.es
  exact ⟨h.nd, h.kb, es, (hb.block b h.lt).trans h1, h2, fun i x hx => let ⟨v, e1, e2⟩ := h3 i x hx; ⟨v, e1, e2.below hb⟩⟩

theorem MapB.new (w : World) : MapB (w.alloc (.map #[] 0)) w.heap.size [] :=
  ⟨by simp, by simp, #[], by show (w.heap.push _)[w.heap.size]? = _; simp, by simp, by simp⟩

theorem law3 : Keyed Try.prog 3 := int_keyed Try.underlying3
theorem wf16 {k : Int} (h0 : -1000000 ≤ k) (h1 : k < 1000000) : (Lit.int .i64 k).wf = true := by
  exact WalkArith.wf_i64 (by omega)
theorem zero22 (w : World) : (zeroValue 22).run Try.prog w = .ok (.slice none 0 0) w := by kernel_rfl

theorem MapB.keyed {w : World} {b : Nat} {L : Tab} (h : MapB w b L) {es : Array MapEntry} (hs : es.size = L.length) (h3 : ∀ (i : Nat) (x : Int × List Int), L[i]? = some x → ∃ v, es[i]? = some ({ key := .int .i64 x.1, val := v, born := i } : MapEntry) ∧ SlR w v x.2) :
    ∀ e ∈ es.toList, ∃ i x, L[i]? = some x ∧ es[i]? = some e ∧ e.key = .int .i64 x.1 ∧ e.born = i ∧ SlR w e.val x.2 := by
  intro e he
  obtain ⟨i, hi⟩ := List.mem_iff_getElem?.1 he
  rw [Array.getElem?_toList] at hi
  have hil : i < L.length := by rw [← hs]; exact (Array.getElem?_eq_some_iff.1 hi).1
  obtain ⟨v, e1, e2⟩ := h3 i _ (List.getElem?_eq_getElem hil)
  rw [hi] at e1
  cases e1
  exact ⟨i, _, List.getElem?_eq_getElem hil, hi, rfl, rfl, e2⟩

theorem MapB.look {w : World} {b : Nat} {L : Tab} (h : MapB w b L) (k : Int) (h0 : -1000000 ≤ k) (h1 : k < 1000000) (c : Bool) :
    ∃ v, (Instr.lookup 53 (.map (some b)) (.int .i64 k) c).run Try.prog w = .ok (if c then .tuple #[v, .bool (lookL L k).isSome] else v) w ∧ (lookL L k = none → v = .slice none 0 0) ∧ ∀ x, lookL L k = some x → SlR w v x := by
  obtain ⟨es, hb, hs, h3⟩ := h.es
  have hk := h.keyed hs h3
  have hkey : keyOf Try.prog 3 (.int .i64 k) = some (.int .i64 k) := keyOf_int_mk Try.underlying3 (wf16 h0 h1)
  have hks : ∀ e ∈ es.toList, ∃ l, keyOf Try.prog 3 e.key = some l := fun e he => by
    obtain ⟨i, x, hx, _, e1, _⟩ := hk e he
    have := h.kb x (List.mem_of_getElem? hx)
    rw [e1]
    exact ⟨_, keyOf_int_mk Try.underlying3 (wf16 (by omega) (by omega))⟩
  rcases law3.find w hkey es.toList hks with ⟨q1, q2⟩ | ⟨j, e0, q1, q2, q3⟩
  · have hn : lookL L k = none := lookL_none fun x hx e => by
      obtain ⟨i, hi⟩ := List.mem_iff_getElem?.1 hx
      obtain ⟨v, e1, _⟩ := h3 i x hi
      have hm := Array.mem_toList_iff.2 (Array.mem_of_getElem? e1)
      exact q2 _ hm (by simp [e])
    rw [hn]
    refine ⟨.slice none 0 0, ?_, fun _ => rfl, fun x hx => by cases hx⟩
    simp [Instr.lookup, run_underlying Try.underlying53, MapKept.run_getObj_map hb, law3.check w _ hkey, q1, zero22, Result.andThen]
  · have hm := List.mem_of_getElem? q2
    obtain ⟨i, x, hx, _, e1, _, e3⟩ := hk e0 hm
    rw [q3] at e1
    cases e1
    have hsm : lookL L x.1 = some x.2 := lookL_of h.nd hx
    rw [hsm]
    refine ⟨e0.val, ?_, (fun hh => nomatch hh), fun y hy => ?_⟩
    rotate_left
    · cases hy; exact e3
    simp [Instr.lookup, run_underlying Try.underlying53, MapKept.run_getObj_map hb, law3.check w _ hkey, q1, Result.andThen]

/-- A store at a key that is not there, or at which the same bytes lie. -/
theorem MapB.store {w : World} {b : Nat} {L : Tab} (h : MapB w b L) (k : Int) (h0 : 0 ≤ k) (h1 : k < 16) {v : Value} {xs : List Int} (hv : SlR w v xs) (hl : lookL L k = none ∨ lookL L k = some xs) :
    ∃ w', (Instr.mapUpdate 53 (.map (some b)) (.int .i64 k) v).run Try.prog w = .ok () w' ∧ MapB w' b (if lookL L k = none then L ++ [(k, xs)] else L) ∧ w.grownBy w' (some b) ∧ w'.heap.size = w.heap.size := by
  obtain ⟨es, hb, hs, h3⟩ := h.es
  have hk := h.keyed hs h3
  have hbl := h.lt
  have hkey : keyOf Try.prog 3 (.int .i64 k) = some (.int .i64 k) := keyOf_int_mk Try.underlying3 (wf16 (by omega) (by omega))
  have hks : ∀ e ∈ es.toList, ∃ l, keyOf Try.prog 3 e.key = some l := fun e he => by
    obtain ⟨i, x, hx, _, e1, _⟩ := hk e he
    have := h.kb x (List.mem_of_getElem? hx)
    rw [e1]
    exact ⟨_, keyOf_int_mk Try.underlying3 (wf16 (by omega) (by omega))⟩
  have hgr : ∀ o : Obj, w.grownBy { w with heap := w.heap.setIfInBounds b o } (some b) := fun o =>
    ⟨rfl, rfl, rfl, by simp, fun i hi hne => by
      show (w.heap.setIfInBounds b o)[i]? = _
      rw [Array.getElem?_setIfInBounds_ne (fun e => hne (by rw [e]))]⟩
  rcases law3.find w hkey es.toList hks with ⟨q1, q2⟩ | ⟨j, e0, q1, q2, q3⟩
  · have hnk : ∀ x ∈ L, x.1 ≠ k := fun x hx e => by
      obtain ⟨i, hi⟩ := List.mem_iff_getElem?.1 hx
      obtain ⟨v, e1, _⟩ := h3 i x hi
      have hm := Array.mem_toList_iff.2 (Array.mem_of_getElem? e1)
      exact q2 _ hm (by simp [e])
    have hn : lookL L k = none := lookL_none hnk
    rw [if_pos hn]
    have hG := hgr (.map (es.push { key := .int .i64 k, val := v, born := L.length }) (L.length + 1))
    refine ⟨{ w with heap := w.heap.setIfInBounds b (.map (es.push { key := .int .i64 k, val := v, born := L.length }) (L.length + 1)) }, ?_, ?_, hG, by simp⟩
    · simp [Instr.mapUpdate, run_underlying Try.underlying53, MapKept.run_getObj_map hb, law3.check w false hkey, q1, MapKept.run_setObj_map _ hb, Result.andThen]
    · refine ⟨?_, ?_, es.push { key := .int .i64 k, val := v, born := L.length }, ?_, by simp [hs], ?_⟩
      · rw [List.map_append, List.nodup_append]
        refine ⟨h.nd, by simp, ?_⟩
        intro a ha c hc e
        simp at hc
        obtain ⟨x, hx, rfl⟩ := List.mem_map.1 ha
        exact hnk x hx (e.trans hc)
      · intro x hx
        rcases List.mem_append.1 hx with hx | hx
        · exact h.kb x hx
        · simp at hx; subst hx; exact ⟨h0, h1⟩
      · show (w.heap.setIfInBounds b _)[b]? = _
        rw [Array.getElem?_setIfInBounds_self_of_lt hbl]
        simp
      · intro i x hx
        rcases Nat.lt_or_ge i L.length with hi | hi
        · rw [List.getElem?_append_left hi] at hx
          obtain ⟨u, e1, e2⟩ := h3 i x hx
          refine ⟨u, ?_, e2.grown hb hG⟩
          rw [Array.getElem?_push_lt (by omega), ← e1, Array.getElem?_eq_getElem (by omega)]
        · have hil : i < (L ++ [(k, xs)]).length := (List.getElem?_eq_some_iff.1 hx).1
          simp at hil
          obtain rfl : i = L.length := by omega
          simp at hx
          subst hx
          refine ⟨v, ?_, hv.grown hb hG⟩
          rw [← hs, Array.getElem?_push_size]
  · have hm := List.mem_of_getElem? q2
    obtain ⟨i, x, hx, hie, e1, hbo, e3⟩ := hk e0 hm
    rw [q3] at e1
    cases e1
    have hsm : lookL L x.1 = some x.2 := lookL_of h.nd hx
    have hxs : x.2 = xs := by
      rcases hl with hl | hl
      · rw [hsm] at hl; cases hl
      · rw [hsm] at hl; cases hl; rfl
    subst hxs
    rw [if_neg (by rw [hsm]; exact fun h => by cases h)]
    have hej : es[j]? = some e0 := by rw [← Array.getElem?_toList]; exact q2
    have hjl : j < es.size := (Array.getElem?_eq_some_iff.1 hej).1
    have hji : j = i := by
      obtain ⟨u, e4, _⟩ := h3 j _ (List.getElem?_eq_getElem (by omega))
      rw [hej] at e4
      have e5 := Option.some.inj e4
      have e6 : e0.born = j := by rw [e5]
      omega
    subst hji
    have hst := law3.stays w hkey
    have hG := hgr (.map (es.modify j fun e => { e with key := .int .i64 x.1, val := v }) L.length)
    refine ⟨{ w with heap := w.heap.setIfInBounds b (.map (es.modify j fun e => { e with key := .int .i64 x.1, val := v }) L.length) }, ?_, ?_, hG, by simp⟩
    · simp [Instr.mapUpdate, run_underlying Try.underlying53, MapKept.run_getObj_map hb, law3.check w false hkey, q1, hej, q3, hst, MapKept.run_setObj_map _ hb, Result.andThen]
    · refine ⟨h.nd, h.kb, es.modify j fun e => { e with key := .int .i64 x.1, val := v }, ?_, by simp [hs], ?_⟩
      · show (w.heap.setIfInBounds b _)[b]? = _
        rw [Array.getElem?_setIfInBounds_self_of_lt hbl]
      · intro i y hy
        obtain ⟨u, e4, e5⟩ := h3 i y hy
        rw [Array.getElem?_modify]
        by_cases e : j = i
        · subst e
          rw [hx] at hy
          cases hy
          refine ⟨v, ?_, hv.grown hb hG⟩
          rw [if_pos rfl, hej]
          simp [hbo]
        · exact ⟨u, by rw [if_neg e]; exact e4, e5.grown hb hG⟩

theorem MapB.len {w : World} {b : Nat} {L : Tab} (h : MapB w b L) (ty : TypeId) : (Builtin.len_ #[53] ty #[.map (some b)]).run Try.prog w = .ok (.int .i64 (L.length : Nat)) w := by
  obtain ⟨es, hb, hs, _⟩ := h.es
  simp [Builtin.len_, run_underlying Try.underlying53, MapKept.run_getObj_map hb, goInt, Result.andThen, hs]

/-- A range over the map: the entries that have come. -/
structure IterB (w : World) (b r : Nat) (L : Tab) (seen : List Nat) : Prop where
  it : w.heap[r]? = some (.mapIter (some b) L.length seen.toArray L.length)
  nd : seen.Nodup
  lt : ∀ j ∈ seen, j < L.length

theorem IterB.below {w w' : World} {b r : Nat} {L : Tab} {seen : List Nat} (h : IterB w b r L seen) (hb : Below w.heap.size w w') : IterB w' b r L seen :=
  ⟨(hb.block r (Array.getElem?_eq_some_iff.1 h.it).1).trans h.it, h.nd, h.lt⟩

theorem MapB.range {w : World} {b : Nat} {L : Tab} (h : MapB w b L) : ∃ w', (Instr.range 53 (.map (some b))).run Try.prog w = .ok (.pointer (some ⟨w.heap.size, 0, none⟩)) w' ∧ IterB w' b w.heap.size L [] ∧ Below w.heap.size w w' ∧ w'.heap.size = w.heap.size + 1 := by
  obtain ⟨es, hb, hs, _⟩ := h.es
  refine ⟨_, run_range_map w 53 3 22 b es L.length Try.underlying53 hb, ⟨?_, by simp, by simp⟩, (Below.refl _ _).alloc (Nat.le_refl _) _, by simp⟩
  show (w.heap.push _)[w.heap.size]? = _
  simp

theorem full_of_seen {n : Nat} {seen : List Nat} (hnd : seen.Nodup) (hlt : ∀ j ∈ seen, j < n) (hall : ∀ j, j < n → j ∈ seen) : seen.Perm (List.range n) :=
  (List.perm_ext_iff_of_nodup hnd List.nodup_range).2 fun a => by rw [List.mem_range]; exact ⟨hlt a, hall a⟩

theorem seen_le {n : Nat} {seen : List Nat} (hnd : seen.Nodup) (hlt : ∀ j ∈ seen, j < n) : seen.length ≤ n := by
  have := List.Nodup.length_le_of_subset hnd (l₂ := List.range n) (fun a ha => by rw [List.mem_range]; exact hlt a ha)
  simpa using this

theorem MapB.next {w : World} {b r : Nat} {L : Tab} {seen : List Nat} (h : MapB w b L) (hi : IterB w b r L seen) :
    (seen.Perm (List.range L.length) ∧ ∀ ty, (Instr.next (.pointer (some ⟨r, 0, none⟩)) false ty).run Try.prog w = .ok (.tuple #[.bool false]) w) ∨
    ∃ j x v w', L[j]? = some x ∧ SlR w v x.2 ∧ (∀ ty, (Instr.next (.pointer (some ⟨r, 0, none⟩)) false ty).run Try.prog w = .ok (.tuple #[.bool true, .int .i64 x.1, v]) w') ∧
      IterB w' b r L (seen ++ [j]) ∧ (Instr.entry (.pointer (some ⟨r, 0, none⟩))).run Try.prog w' = .ok (.tuple #[.int .i64 x.1, v]) w' ∧ w.grownBy w' (some r) ∧ w'.heap.size = w.heap.size ∧ seen.length < L.length := by
  obtain ⟨es, hb, hs, h3⟩ := h.es
  have hk := h.keyed hs h3
  have hold : ∀ x ∈ es.toList, x.born < L.length := fun x hx => by
    obtain ⟨i, y, hy, _, _, e1, _⟩ := hk x hx
    rw [e1]; exact (List.getElem?_eq_some_iff.1 hy).1
  by_cases h0 : (leftOf es seen.toArray).size = 0
  · left
    refine ⟨full_of_seen hi.nd hi.lt fun j hj => ?_, fun ty => ?_⟩
    · obtain ⟨v, e1, _⟩ := h3 j _ (List.getElem?_eq_getElem hj)
      have := all_seen es seen.toArray h0 _ (Array.mem_toList_iff.2 (Array.mem_of_getElem? e1))
      simpa using this
    · rcases run_next_at (P := Try.prog) w ty r b L.length L.length seen.toArray es L.length hi.it hb hold (Nat.le_refl _) with ⟨_, hrun⟩ | ⟨e, he, _⟩
      · exact hrun
      · have : leftOf es seen.toArray = #[] := Array.eq_empty_of_size_eq_zero h0
        rw [this] at he; simp at he
  · right
    rcases run_next_at (P := Try.prog) w 0 r b L.length L.length seen.toArray es L.length hi.it hb hold (Nat.le_refl _) with ⟨h1, _⟩ | ⟨e, he, w1, hal, hrun⟩
    · exact absurd h1 h0
    · have hem : e ∈ es.toList ∧ ¬ e.born ∈ seen := by
        unfold leftOf at he
        simp at he ⊢
        exact he
      obtain ⟨i, x, hx, hie, e1, e2, e3⟩ := hk e hem.1
      have hns : i ∉ seen := by rw [← e2]; exact hem.2
      have hilt : i < L.length := (List.getElem?_eq_some_iff.1 hx).1
      have hnew : (seen ++ [i]).Nodup := by
        rw [List.nodup_append]
        exact ⟨hi.nd, by simp, fun a ha c hc e => by simp at hc; subst hc; subst e; exact hns ha⟩
      have hnl : ∀ j ∈ seen ++ [i], j < L.length := fun j hj => by
        rcases List.mem_append.1 hj with hj | hj
        · exact hi.lt j hj
        · simp at hj; subst hj; exact hilt
      have hr1 : r < w1.heap.size := by
        have := (Array.getElem?_eq_some_iff.1 hi.it).1
        rcases hal with rfl | rfl
        · exact this
        · exact this
      have hh : w1.heap = w.heap := by rcases hal with rfl | rfl <;> rfl
      have hne : r ≠ b := fun e => by have hq := hi.it; rw [e, hb] at hq; cases hq
      have hit : (Go.ChangeMaps.setBlock w1 r (.mapIter (some b) L.length (seen.toArray.push e.born) L.length)).heap[r]? = some (.mapIter (some b) L.length (seen.toArray.push e.born) L.length) := by
        simp [Go.ChangeMaps.setBlock, hr1]
      have hbb : (Go.ChangeMaps.setBlock w1 r (.mapIter (some b) L.length (seen.toArray.push e.born) L.length)).heap[b]? = some (.map es L.length) := by
        have : w1.heap[b]? = some (.map es L.length) := by rcases hal with rfl | rfl <;> exact hb
        simp [Go.ChangeMaps.setBlock, Array.getElem?_setIfInBounds, hne, this]
      have hborn : (es.toList.map (·.born)).Nodup := by
        have : es.toList.map (·.born) = List.range L.length := by
          apply List.ext_getElem?
          intro k
          rw [List.getElem?_map, Array.getElem?_toList]
          rcases Nat.lt_or_ge k L.length with hk' | hk'
          · obtain ⟨v, e1, _⟩ := h3 k _ (List.getElem?_eq_getElem hk')
            rw [e1, List.getElem?_range hk']; rfl
          · rw [Array.getElem?_eq_none (by omega), List.getElem?_eq_none (by simpa using hk')]; rfl
        rw [this]; exact List.nodup_range
      have hrunA : ∀ ty, (Instr.next (.pointer (some ⟨r, 0, none⟩)) false ty).run Try.prog w = .ok (.tuple #[.bool true, .int .i64 x.1, e.val]) (Go.ChangeMaps.setBlock w1 r (.mapIter (some b) L.length (seen.toArray.push e.born) L.length)) := by
        intro ty
        rw [← e1]
        exact hrun
      refine ⟨i, x, e.val, _, hx, e3, hrunA, ⟨?_, hnew, hnl⟩, ?_, ?_, ?_, ?_⟩
      · rw [hit, e2]; simp
      · rw [← e1]; exact run_entry_at (P := Try.prog) _ r b L.length seen.toArray es L.length e hit hbb hem.1 hborn
      · refine ⟨?_, ?_, ?_, ?_, fun k hk hne => ?_⟩
        · rcases hal with rfl | rfl <;> rfl
        · rcases hal with rfl | rfl <;> rfl
        · rcases hal with rfl | rfl <;> rfl
        · simp [Go.ChangeMaps.setBlock, hh]
        · have : ¬ r = k := fun e => hne (by rw [e])
          simp [Go.ChangeMaps.setBlock, Array.getElem?_setIfInBounds, this, hh]
      · simp [Go.ChangeMaps.setBlock, hh]
      · have := seen_le hnew hnl
        simp at this; omega

/-- 'string(b)' of bytes. -/
theorem conv_any {w : World} {a : Option Addr} {n : Nat} {xs : List Int} (c : Nat) (h : RdU w a n xs) : (convert 22 9 (.slice a n c)).run Try.prog w = .ok (.string (strOfNums xs)) w := by
  have hl := h.length
  rcases Nat.eq_zero_or_pos n with hn | hn
  · subst hn
    obtain rfl : xs = [] := List.eq_nil_of_length_eq_zero hl
    exact run_convert_bytes_zero w 22 5 Try.underlying22 Try.underlying5 a c 9 Try.underlying9
  · obtain ⟨b, o, rfl, _⟩ := h.cell 0 hn
    refine run_convert_bytes_arg (P := Try.prog) w 22 5 Try.underlying22 Try.underlying5 b o n c xs hl (fun i hi => ?_) 9 Try.underlying9
    obtain ⟨b', o', e, hc⟩ := h.cell i hi
    cases e
    rw [hc]
    simp [List.getElem?_eq_getElem (show i < xs.length by omega)]

end Go.Proofs.Ytifgpjhodajccaa
