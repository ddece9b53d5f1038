/-
  How an argument that is a slice of messages reads. No condition.
-/
import Derived.Test.YtifgpjhodajccaaOpen
import Derived.Test.YtifgpjhodajccaaWalkP
import Derived.Deep.Strs
import Derived.OpenShut
namespace Go.Proofs.Ytifgpjhodajccaa
open Go.RowKit Go.ChangeShapes Go.Deep

theorem list_of {α : Type} (n : Nat) (Q : Nat → α → Prop) (h : ∀ i, i < n → ∃ s, Q i s) : ∃ l : List α, l.length = n ∧ ∀ i s, l[i]? = some s → Q i s := by
  induction n with
  | zero => exact ⟨[], rfl, by simp⟩
  | succ n ih =>
    obtain ⟨l, hl, hq⟩ := ih fun i hi => h i (by omega)
    obtain ⟨s, hs⟩ := h n (by omega)
    refine ⟨l ++ [s], by simp [hl], fun i x hx => ?_⟩
    rcases Nat.lt_or_ge i n with hi | hi
    · rw [List.getElem?_append_left (by omega)] at hx
      exact hq i x hx
    · have : i < (l ++ [s]).length := (List.getElem?_eq_some_iff.1 hx).1
      simp at this
      obtain rfl : i = n := by omega
      rw [← hl] at hx
      simp at hx
      rw [hl] at *
      subst hx
      exact hs

section
variable {H : Type} {enc : TypeId × Value → H} {w : World} {base : Nat} {held : Bool}

theorem open_bytes {fuel : Nat} {v : Value} {x : DataW H × List MemPlace} (h : DataW.trod enc Try.prog w base (fun _ => true) held fuel 22 [v] = some x) :
    ∃ a zs cap, v = .slice a zs.length cap ∧ RdU w a zs.length zs ∧ zs.length ≤ cap ∧ cap ≤ 9223372036854775807 ∧ (a = none → cap = 0) ∧ ∀ b ∈ zs, 0 ≤ b ∧ b < 256 := by
  rcases open_ints Try.underlying22 Try.underlying5 (by kernel_rfl) h with ⟨hcs, _⟩ | ⟨y, l, c, zs, hcs, _, hl, hm, hz, _, hcell, hwz⟩
  · simp at hcs
    subst hcs
    exact ⟨none, [], 0, rfl, rd_nil, Nat.le_refl _, by omega, fun _ => rfl, by simp⟩
  · simp at hcs
    subst hcs
    have hz' : zs.length = c := by simpa using hz
    have hlen : (zs.take l).length = l := by simp; omega
    exact ⟨some y, zs.take l, c, by rw [hlen], by rw [hlen]; exact rd_bytes hl hm hz' hcell, by rw [hlen]; exact hl, hm, (fun e => by cases e), fun b hb => bounds_u8z (hwz b (List.mem_of_mem_take hb))⟩

set_option maxRecDepth 100000 in
/-- A segment's two cells. -/
theorem open_seg {fuel : Nat} {cs : List Value} {x : DataW H × List MemPlace} (h : DataW.trod enc Try.prog w base (fun _ => true) held fuel 52 cs = some x) :
    ∃ (s : Sg) (a : Option Addr) (cap : Nat), cs = [.int .i64 s.1, .slice a s.2.length cap] ∧ RdU w a s.2.length s.2 ∧ s.2.length ≤ cap ∧ cap ≤ 9223372036854775807 ∧ (a = none → cap = 0) ∧ ∀ b ∈ s.2, 0 ≤ b ∧ b < 256 := by
  obtain ⟨y0, y1, n, _, hl, h0, h1⟩ := trod_struct2 Try.underlying52 h
  have hl2 : cs.length = 2 := hl.trans (by kernel_rfl)
  match cs, hl2 with
  | [u, v], _ =>
    have h0' : DataW.trod enc Try.prog w base (fun _ => true) held n 50 [u] = some y0 := h0
    have h1' : DataW.trod enc Try.prog w base (fun _ => true) held n 22 [v] = some y1 := h1
    obtain ⟨m, e0, _⟩ := DataW.trod_int Try.underlying50 h0'
    obtain ⟨a, zs, cap, rfl, r1, r2⟩ := open_bytes h1'
    simp at e0
    subst e0
    exact ⟨(m, zs), a, cap, rfl, r1, r2⟩

/-- A slice of segments. -/
theorem open_segs {fuel : Nat} {v : Value} {x : DataW H × List MemPlace} (h : DataW.trod enc Try.prog w base (fun _ => true) held fuel 38 [v] = some x) :
    ∃ a ss cap, v = .slice a ss.length cap ∧ RdS w a ss.length ss ∧ ∀ s ∈ ss, ∀ b ∈ s.2, 0 ≤ b ∧ b < 256 := by
  rcases DataW.trod_slice Try.underlying38 h with ⟨hcs, _⟩ | ⟨a, len, cap, elems, rest, n, _, hcs, _, _, hl, hm, hlen, hel, _⟩
  · simp at hcs
    subst hcs
    exact ⟨none, [], 0, rfl, ⟨rfl, by simp, fun k hk => by simp at hk⟩, by simp⟩
  · simp at hcs
    subst hcs
    have hsz : Try.prog.cellsOf 52 = 2 := by kernel_rfl
    rw [hsz] at hel
    have hmm : len ≤ 9223372036854775807 := by unfold maxLen at hm; omega
    have hspot : 0 < len → a.spot = none := fun h0 => by
      have he := hel 0 h0
      rw [List.getElem?_eq_getElem (by omega)] at he
      obtain ⟨cs, hc, _⟩ := Option.bind_eq_some_iff.1 he
      obtain ⟨_, hcl, hcell⟩ := World.cells?_some hc
      have c0 := hcell 0 (by omega)
      rw [List.getElem?_eq_getElem (by omega)] at c0
      have := World.cell?_spot c0
      simpa [Addr.add] using this
    have each : ∀ i, i < len → ∃ s : Sg, (∃ b off, a = ⟨b, off, none⟩ ∧ SegR w b (off + i * 2) s) ∧ ∀ c ∈ s.2, 0 ≤ c ∧ c < 256 := by
      intro i hi
      have he := hel i hi
      rw [List.getElem?_eq_getElem (by omega)] at he
      obtain ⟨cs, hc, ht⟩ := Option.bind_eq_some_iff.1 he
      obtain ⟨s, da, dc, rfl, r1, r2, r3, r4, r5⟩ := open_seg ht
      obtain ⟨_, _, hcell⟩ := World.cells?_some hc
      have c0 := hcell 0 (by omega)
      have c1 := hcell 1 (by omega)
      simp only [List.getElem?_cons_zero, List.getElem?_cons_succ] at c0 c1
      obtain ⟨b, o, sp⟩ := a
      have hsp : sp = none := hspot (by omega)
      subst hsp
      rw [add_none, add_none] at c0 c1
      exact ⟨s, ⟨b, o, rfl, c0, da, dc, c1, r1, r2, r3, r4⟩, r5⟩
    obtain ⟨ss, hs1, hs2⟩ := list_of len _ each
    subst hs1
    refine ⟨some a, ss, cap, rfl, ⟨rfl, hmm, fun k hk => ?_⟩, fun s hs => ?_⟩
    · obtain ⟨⟨b, off, e, _⟩, _⟩ := hs2 k _ (List.getElem?_eq_getElem hk)
      refine ⟨b, off, by rw [e], fun s hs => ?_⟩
      obtain ⟨⟨b', off', e', hr⟩, _⟩ := hs2 k s hs
      rw [e] at e'
      cases e'
      exact hr
    · obtain ⟨j, hj⟩ := List.mem_iff_getElem?.1 hs
      exact (hs2 j s hj).2

set_option maxRecDepth 100000 in
/-- A message's four cells. -/
theorem open_msg {fuel : Nat} {cs : List Value} {x : DataW H × List MemPlace} (h : DataW.trod enc Try.prog w base (fun _ => true) held fuel 42 cs = some x) :
    ∃ (m : Msg) (a : Option Addr) (cap : Nat), cs = [.slice a m.1.length cap, .int .i64 m.2.1, .int .i64 m.2.2.1, .int .i64 m.2.2.2] ∧ RdS w a m.1.length m.1 ∧ ∀ s ∈ m.1, ∀ b ∈ s.2, 0 ≤ b ∧ b < 256 := by
  obtain ⟨y0, y1, n, _, hl, h0, h1⟩ := trod_struct2 Try.underlying42 h
  have hl2 : cs.length = 4 := hl.trans (by kernel_rfl)
  match cs, hl2 with
  | [u, v1, v2, v3], _ =>
    have h0' : DataW.trod enc Try.prog w base (fun _ => true) held n 38 [u] = some y0 := h0
    have h1' : DataW.trod enc Try.prog w base (fun _ => true) held n 40 [v1, v2, v3] = some y1 := h1
    obtain ⟨a, ss, cap, rfl, r1, r2⟩ := open_segs h0'
    obtain ⟨z0, z1, z2, n2, _, _, g0, g1, g2⟩ := trod_struct3 Try.underlying40 h1'
    have g0' : DataW.trod enc Try.prog w base (fun _ => true) held n2 3 [v1] = some z0 := g0
    have g1' : DataW.trod enc Try.prog w base (fun _ => true) held n2 3 [v2] = some z1 := g1
    have g2' : DataW.trod enc Try.prog w base (fun _ => true) held n2 3 [v3] = some z2 := g2
    obtain ⟨i, e0, _⟩ := DataW.trod_int Try.underlying3 g0'
    obtain ⟨t, e1, _⟩ := DataW.trod_int Try.underlying3 g1'
    obtain ⟨p, e2, _⟩ := DataW.trod_int Try.underlying3 g2'
    simp at e0 e1 e2
    subst e0; subst e1; subst e2
    exact ⟨(ss, i, t, p), a, cap, rfl, r1, r2⟩

/-- A slice of messages. -/
theorem open_msgs {fuel : Nat} {v : Value} {x : DataW H × List MemPlace} (h : DataW.trod enc Try.prog w base (fun _ => true) held fuel 33 [v] = some x) :
    ∃ a ms cap, v = .slice a ms.length cap ∧ RdM w a ms.length ms ∧ ∀ m ∈ ms, ∀ s ∈ m.1, ∀ b ∈ s.2, 0 ≤ b ∧ b < 256 := by
  rcases DataW.trod_slice Try.underlying33 h with ⟨hcs, _⟩ | ⟨a, len, cap, elems, rest, n, _, hcs, _, _, hl, hm, hlen, hel, _⟩
  · simp at hcs
    subst hcs
    exact ⟨none, [], 0, rfl, ⟨rfl, by simp, fun k hk => by simp at hk⟩, by simp⟩
  · simp at hcs
    subst hcs
    have hsz : Try.prog.cellsOf 42 = 4 := by kernel_rfl
    rw [hsz] at hel
    have hmm : len ≤ 9223372036854775807 := by unfold maxLen at hm; omega
    have hspot : 0 < len → a.spot = none := fun h0 => by
      have he := hel 0 h0
      rw [List.getElem?_eq_getElem (by omega)] at he
      obtain ⟨cs, hc, _⟩ := Option.bind_eq_some_iff.1 he
      obtain ⟨_, hcl, hcell⟩ := World.cells?_some hc
      have c0 := hcell 0 (by omega)
      rw [List.getElem?_eq_getElem (by omega)] at c0
      have := World.cell?_spot c0
      simpa [Addr.add] using this
    have each : ∀ i, i < len → ∃ m : Msg, (∃ b off, a = ⟨b, off, none⟩ ∧ MsgR w b (off + i * 4) m) ∧ ∀ s ∈ m.1, ∀ c ∈ s.2, 0 ≤ c ∧ c < 256 := by
      intro i hi
      have he := hel i hi
      rw [List.getElem?_eq_getElem (by omega)] at he
      obtain ⟨cs, hc, ht⟩ := Option.bind_eq_some_iff.1 he
      obtain ⟨m, da, dc, rfl, r1, r2⟩ := open_msg ht
      obtain ⟨_, _, hcell⟩ := World.cells?_some hc
      have c0 := hcell 0 (by omega)
      have c1 := hcell 1 (by omega)
      have c2 := hcell 2 (by omega)
      have c3 := hcell 3 (by omega)
      simp only [List.getElem?_cons_zero, List.getElem?_cons_succ] at c0 c1 c2 c3
      obtain ⟨b, o, sp⟩ := a
      have hsp : sp = none := hspot (by omega)
      subst hsp
      rw [add_none, add_none] at c0 c1 c2 c3
      exact ⟨m, ⟨b, o, rfl, ⟨da, dc, c0, r1⟩, c1, c2, c3⟩, r2⟩
    obtain ⟨ms, hs1, hs2⟩ := list_of len _ each
    subst hs1
    refine ⟨some a, ms, cap, rfl, ⟨rfl, hmm, fun k hk => ?_⟩, fun s hs => ?_⟩
    · obtain ⟨⟨b, off, e, _⟩, _⟩ := hs2 k _ (List.getElem?_eq_getElem hk)
      refine ⟨b, off, by rw [e], fun s hs => ?_⟩
      obtain ⟨⟨b', off', e', hr⟩, _⟩ := hs2 k s hs
      rw [e] at e'
      cases e'
      exact hr
    · obtain ⟨j, hj⟩ := List.mem_iff_getElem?.1 hs
      exact (hs2 j s hj).2

end
end Go.Proofs.Ytifgpjhodajccaa
