/-
  Plain helpers for the walks over seat Ytifgpjhodajccaa: what a slice of one-cell values reads as ('Rd'), and how that reading is carried on. No condition.
-/
import Derived.WalkKit
import Derived.WalkSpells
import Derived.WalkLawsBesides
import Derived.Deep.QuietTactic
import Derived.BigQuiet
import Derived.Lib.Hide
namespace Go.Proofs.Ytifgpjhodajccaa
open Go.RowKit

/-- The slice with n elements at a reads as the list xs of one-cell values. -/
structure Rd (w : World) (a : Option Addr) (n : Nat) (xs : List Value) : Prop where
  len : xs.length = n
  le : n ≤ 9223372036854775807
  cell : ∀ k, k < n → ∃ b off, a = some ⟨b, off, none⟩ ∧ w.cell? ⟨b, off + k, none⟩ = some (xs.getD k undef)

abbrev RdI (w : World) (a : Option Addr) (n : Nat) (zs : List Int) : Prop := Rd w a n (zs.map (Value.int .i64))
abbrev RdB (w : World) (a : Option Addr) (n : Nat) (bs : List Bool) : Prop := Rd w a n (bs.map Value.bool)

theorem drop_getD {α : Type} (xs : List α) (k : Nat) (d : α) (h : k < xs.length) : xs.drop k = xs.getD k d :: xs.drop (k + 1) := by
  rw [List.drop_eq_getElem_cons h]; simp [h]

theorem getElem?_of_drop {α : Type} {xs r : List α} {k : Nat} {z : α} (h : xs.drop k = z :: r) : xs[k]? = some z := by
  have := congrArg (·[0]?) h
  simpa using this

theorem drop_all {α : Type} {xs : List α} {k : Nat} (h : xs.length ≤ k) : xs.drop k = [] := List.drop_of_length_le h

theorem Rd.at {α : Type} {f : α → Value} {w : World} {a : Option Addr} {n : Nat} {zs : List α} (h : Rd w a n (zs.map f)) (k : Nat) (hk : k < n) :
    ∃ b off z, a = some ⟨b, off, none⟩ ∧ w.cell? ⟨b, off + k, none⟩ = some (f z) ∧ zs.drop k = z :: zs.drop (k + 1) := by
  obtain ⟨b, off, rfl, hc⟩ := h.cell k hk
  have hl := h.len
  simp at hl
  have hk' : k < zs.length := by omega
  refine ⟨b, off, zs[k], rfl, ?_, List.drop_eq_getElem_cons hk'⟩
  rw [hc]
  simp [List.getElem?_eq_getElem hk']

theorem Rd.cellI {α : Type} {f : α → Value} {w : World} {b off n : Nat} {zs r : List α} {z : α} (h : Rd w (some ⟨b, off, none⟩) n (zs.map f)) (k : Nat) (hk : k < n) (hd : zs.drop k = z :: r) :
    w.cell? ⟨b, off + k, none⟩ = some (f z) := by
  obtain ⟨b', off', z', e, hc, hd'⟩ := h.at k hk
  cases e
  rw [hd] at hd'
  cases hd'
  exact hc

theorem Rd.at_rev {α : Type} {f : α → Value} {w : World} {a : Option Addr} {n : Nat} {zs : List α} (h : Rd w a n (zs.map f)) (k : Nat) (hk : k < n) :
    ∃ b off z, a = some ⟨b, off, none⟩ ∧ w.cell? ⟨b, off + (n - 1 - k), none⟩ = some (f z) ∧ zs.reverse.drop k = z :: zs.reverse.drop (k + 1) := by
  obtain ⟨b, off, rfl, hc⟩ := h.cell (n - 1 - k) (by omega)
  have hl := h.len
  simp at hl
  have hk' : k < zs.reverse.length := by simp; omega
  refine ⟨b, off, zs.reverse[k], rfl, ?_, List.drop_eq_getElem_cons hk'⟩
  rw [hc]
  have hk2 : n - 1 - k < zs.length := by omega
  subst hl
  simp [List.getElem?_eq_getElem hk2]

theorem Rd.length {α : Type} {f : α → Value} {w : World} {a : Option Addr} {n : Nat} {zs : List α} (h : Rd w a n (zs.map f)) : zs.length = n := by
  have := h.len; simpa using this

theorem Rd.take {α : Type} {f : α → Value} {w : World} {a : Option Addr} {n : Nat} {zs : List α} (h : Rd w a n (zs.map f)) (m : Nat) (hm : m ≤ n) : Rd w a m ((zs.take m).map f) := by
  have hl := h.length
  refine ⟨by simp; omega, by have := h.le; omega, fun k hk => ?_⟩
  obtain ⟨b, off, e, hc⟩ := h.cell k (by omega)
  refine ⟨b, off, e, hc.trans ?_⟩
  simp [hk]

theorem lt_of_cell {w : World} {a : Addr} {v : Value} (h : w.cell? a = some v) : a.block < w.heap.size := by
  unfold World.cell? at h
  rcases Nat.lt_or_ge a.block w.heap.size with h1 | h1
  · exact h1
  · rw [Array.getElem?_eq_none h1] at h; simp at h

theorem Rd.below {w w' : World} {a : Option Addr} {n : Nat} {xs : List Value} (h : Rd w a n xs) (hb : Below w.heap.size w w') : Rd w' a n xs :=
  ⟨h.len, h.le, fun k hk => let ⟨b, off, e, hc⟩ := h.cell k hk; ⟨b, off, e, (hb.cell (p := ⟨b, off + k, none⟩) (lt_of_cell hc)).trans hc⟩⟩

theorem ownsRow_rd {w : World} {base e n : Nat} {v : Value} {xs : List Value} (h : w.ownsRow base e 1 v n xs) (hn : n ≤ 9223372036854775807) :
    ∃ a cap, v = .slice a n cap ∧ Rd w a n xs := by
  obtain ⟨hl, h⟩ := h
  rcases h with ⟨rfl, rfl⟩ | ⟨g, cap, cur, rfl, _, hg, hcap, _, hsz, htk⟩
  · exact ⟨none, 0, rfl, by simpa using hl, hn, fun k hk => absurd hk (by omega)⟩
  · refine ⟨_, cap, rfl, by simpa using hl, hn, fun k hk => ⟨g, 0, rfl, ?_⟩⟩
    simp only [World.cell?, hg, Nat.zero_add]
    have hl' : xs.length = n := by simpa using hl
    have e1 : xs[k]? = cur.toList[k]? := by rw [← htk]; simp [hk]
    have hk2 : k < xs.length := by omega
    have e2 : cur[k]? = xs[k]? := by rw [e1]; simp
    simp [e2, List.getElem?_eq_getElem hk2]

theorem map_last {α : Type} (f : α → Value) (acc : List α) (h : acc ≠ []) : (acc.map f).getD (acc.length - 1) undef = f (acc.getLast h) := by
  have hp := List.length_pos_iff.2 h
  have hq : acc.length - 1 < acc.length := by omega
  rw [List.getLast_eq_getElem]; simp [hq]

theorem ret_int {k : IntKind} {a b : Int} (h : a = b) : Ending.returned (.int k a) = .returned (.int k b) := by rw [h]
theorem ret_bool {a b : Bool} (h : a = b) : Ending.returned (.bool a) = .returned (.bool b) := by rw [h]

theorem below_app {B e n : Nat} {w wr w1 : World} {o : Obj} {v : Value} {xs : List Value} (hB : Below B w wr) (hs : B ≤ wr.heap.size) (hown : wr.ownsRow B e 1 v n xs)
    (hg : (wr.alloc o).grownBy w1 v.ownBlock) : Below B w w1 := by
  refine (hB.alloc hs o).grown hg (by simp; omega) ?_
  intro k hk
  rcases hown.2 with ⟨rfl, _⟩ | ⟨g, cap, cur, rfl, hg', _⟩
  · simp [Value.ownBlock] at hk
  · simp [Value.ownBlock] at hk; omega

theorem own_congr {B e n n' : Nat} {w : World} {v : Value} {xs xs' : List Value} (h : w.ownsRow B e 1 v n xs) (hn : n = n') (hx : xs = xs') : w.ownsRow B e 1 v n' xs' := by
  subst hn; subst hx; exact h

theorem own_drewN {B e n : Nat} {w : World} {v : Value} {xs : List Value} (h : w.ownsRow B e 1 v n xs) (k : Nat) : (w.drewN k).ownsRow B e 1 v n xs := h

/-- The call returned the pair of a new slice that reads as xs, and the number c; nothing that was there has changed. -/
def RetB (xs : List Bool) (c : Int) (w : World) (e : Ending) (w' : World) : Prop :=
  ∃ v, e = .returned (.tuple #[v, .int .i64 c]) ∧ w'.ownsRow w.heap.size 4 1 v xs.length (xs.map Value.bool) ∧ Below w.heap.size w w'
def RetI (xs : List Int) (c : Int) (w : World) (e : Ending) (w' : World) : Prop :=
  ∃ v, e = .returned (.tuple #[v, .int .i64 c]) ∧ w'.ownsRow w.heap.size 3 1 v xs.length (xs.map (Value.int .i64)) ∧ Below w.heap.size w w'

/-- A block that was just laid is a row of the call's own. -/
theorem own_new {B e : Nat} (w : World) (xs : List Value) (n : Nat) (hB : B ≤ w.heap.size) (hn : n = xs.length) (hm : n ≤ maxLen) : (w.alloc (.cells xs.toArray e)).ownsRow B e 1 (.slice (some ⟨w.heap.size, 0, none⟩) n n) n xs := by
  subst hn
  exact ⟨by simp, .inr ⟨w.heap.size, xs.length, xs.toArray, rfl, hB, (by show (w.heap.push _)[w.heap.size]? = _; simp), Nat.le_refl _, hm, by simp, by simp⟩⟩

/-- A row of the call's own that is full: its block, whole. -/
theorem own_block {w : World} {B e size g n : Nat} {xs : List Value} (h : w.ownsRow B e size (.slice (some ⟨g, 0, none⟩) n n) n xs) : w.heap[g]? = some (.cells xs.toArray e (0, 0)) ∧ B ≤ g := by
  obtain ⟨_, h⟩ := h
  rcases h with ⟨h, _⟩ | ⟨g', cap, cur, e1, hB, hg, _, _, hsz, htk⟩
  · cases h
  · cases e1
    refine ⟨?_, hB⟩
    rw [hg]
    have : xs = cur.toList := by rw [← htk, List.take_of_length_le (by simp [hsz])]
    subst this
    simp

theorem made_one (v : Value) (n : Nat) : (madeCells #[v] (n * 1)).toList = List.replicate n v := by
  apply List.ext_getElem
  · simp [madeCells]
  · intro i h1 h2
    simp [madeCells, Nat.mod_one]

/-- A full block, as an owned row. -/
theorem block_own {w : World} {B e g n : Nat} {xs : List Value} (h : w.heap[g]? = some (.cells xs.toArray e (0, 0))) (hn : xs.length = n) (hB : B ≤ g) (hm : n ≤ maxLen) : w.ownsRow B e 1 (.slice (some ⟨g, 0, none⟩) n n) n xs :=
  ⟨by simp [hn], .inr ⟨g, n, xs.toArray, rfl, hB, h, Nat.le_refl _, hm, by simp [hn], by simp [← hn]⟩⟩

theorem own_rd {w : World} {base e n : Nat} {v : Value} {xs : List Value} (h : w.ownsRow base e 1 v n xs) : ∃ a cap, v = .slice a n cap ∧ Rd w a n xs := by
  refine ownsRow_rd h ?_
  rcases h.2 with ⟨_, rfl⟩ | ⟨g, cap, cur, _, _, _, h1, h2, _⟩
  · omega
  · unfold maxLen at h2; omega

/-- The pair of a new slice and a number, opened. -/
theorem RetB.open {xs : List Bool} {c : Int} {w w' : World} {e : Ending} (h : RetB xs c w e w') : ∃ a cap, e = .returned (.tuple #[.slice a xs.length cap, .int .i64 c]) ∧ RdB w' a xs.length xs ∧ Below w.heap.size w w' := by
  obtain ⟨v, rfl, hown, hb⟩ := h
  obtain ⟨a, cap, rfl, hrd⟩ := own_rd hown
  exact ⟨a, cap, rfl, hrd, hb⟩
theorem RetI.open {xs : List Int} {c : Int} {w w' : World} {e : Ending} (h : RetI xs c w e w') : ∃ a cap, e = .returned (.tuple #[.slice a xs.length cap, .int .i64 c]) ∧ RdI w' a xs.length xs ∧ Below w.heap.size w w' := by
  obtain ⟨v, rfl, hown, hb⟩ := h
  obtain ⟨a, cap, rfl, hrd⟩ := own_rd hown
  exact ⟨a, cap, rfl, hrd, hb⟩
end Go.Proofs.Ytifgpjhodajccaa
