/-
  Plain helpers on memory: what a call that writes some blocks leaves as it was ('Chg'); a block of integers as a function of the place ('TabW'). No condition.
-/
import Derived.Test.YtifgpjhodajccaaBase
import Derived.Laws.MakeOwn
import Derived.Deep.MidRow
namespace Go.Proofs.Ytifgpjhodajccaa
open Go.RowKit

/-- Only the blocks of S, and new ones, may have been written. -/
structure Chg (S : List Nat) (w w' : World) : Prop where
  os : w'.os = w.os
  tape : w'.tape = w.tape
  output : w'.output = w.output
  size : w.heap.size ≤ w'.heap.size
  block : ∀ k, k < w.heap.size → k ∉ S → w'.heap[k]? = w.heap[k]?

theorem Chg.refl (S : List Nat) (w : World) : Chg S w w := ⟨rfl, rfl, rfl, Nat.le_refl _, fun _ _ _ => rfl⟩
theorem Chg.trans {S : List Nat} {a b c : World} (h : Chg S a b) (k : Chg S b c) : Chg S a c :=
  ⟨k.os.trans h.os, k.tape.trans h.tape, k.output.trans h.output, Nat.le_trans h.size k.size, fun i hi hs => (k.block i (Nat.lt_of_lt_of_le hi h.size) hs).trans (h.block i hi hs)⟩
theorem Chg.mono {S S' : List Nat} {w w' : World} (h : Chg S w w') (hs : ∀ k ∈ S, k ∈ S') : Chg S' w w' := ⟨h.os, h.tape, h.output, h.size, fun k hk hn => h.block k hk (fun hm => hn (hs k hm))⟩
theorem Chg.of_below {S : List Nat} {w w' : World} (h : Below w.heap.size w w') : Chg S w w' := ⟨h.os, h.tape, h.output, h.size, fun k hk _ => h.block k hk⟩
theorem Chg.to_below {w w' : World} (h : Chg [] w w') : Below w.heap.size w w' := ⟨h.os, h.tape, h.output, h.size, fun k hk => h.block k hk (by simp)⟩
theorem Chg.drew {S : List Nat} {a w : World} (h : Chg S a w) : Chg S a w.drew := ⟨h.os, h.tape, h.output, h.size, h.block⟩
theorem Chg.drewN {S : List Nat} {a w : World} (h : Chg S a w) (m : Nat) : Chg S a (w.drewN m) := ⟨h.os, h.tape, h.output, h.size, h.block⟩
theorem Chg.alloc {S : List Nat} {a w : World} (h : Chg S a w) (o : Obj) : Chg S a (w.alloc o) :=
  h.trans ⟨rfl, rfl, rfl, by simp, fun k hk _ => Below.heap_alloc _ _ _ hk⟩
theorem Chg.setCell {S : List Nat} {a w : World} (h : Chg S a w) {p : Addr} (hp : p.block ∈ S ∨ a.heap.size ≤ p.block) (u : Value) : Chg S a (w.setCell p u) :=
  ⟨h.os, h.tape, h.output, by have := h.size; simp [World.setCell]; omega, fun k hk hs => (Below.heap_setCell _ _ _ _ (by rintro rfl; rcases hp with hp | hp <;> first | exact hs hp | omega)).trans (h.block k hk hs)⟩
theorem Chg.setRow {S : List Nat} {a w : World} (h : Chg S a w) {g : Nat} (hp : g ∈ S ∨ a.heap.size ≤ g) (cs : Array Value) : Chg S a (w.setRow g cs) :=
  ⟨h.os, h.tape, h.output, by have := h.size; simp; omega, fun k hk hs => (setRow_other _ _ _ _ (by rintro rfl; rcases hp with hp | hp <;> first | exact hs hp | omega)).trans (h.block k hk hs)⟩
theorem Chg.below {S : List Nat} {B : Nat} {w0 w w' : World} (h : Chg S w w') (hB : Below B w0 w) (hs : B ≤ w.heap.size) (hS : ∀ k ∈ S, B ≤ k) : Below B w0 w' :=
  hB.trans ⟨h.os, h.tape, h.output, h.size, fun k hk => h.block k (by omega) (fun hm => by have := hS k hm; omega)⟩
theorem Chg.cell {S : List Nat} {w w' : World} (h : Chg S w w') {p : Addr} (hp : p.block < w.heap.size) (hs : p.block ∉ S) : w'.cell? p = w.cell? p := World.cell?_of_block (w := w) (h.block p.block hp hs)
theorem Chg.frozen {S : List Nat} {w w' : World} (h : Chg S w w') {p : Addr} (hp : p.block < w.heap.size) (hs : p.block ∉ S) : w'.frozen? p = w.frozen? p := World.frozen?_of_block (w := w) (h.block p.block hp hs)
theorem Chg.grown {S : List Nat} {a w w' : World} {row : Option Nat} (h : Chg S a w) (hg : w.grownBy w' row) (hr : ∀ k, row = some k → k ∈ S ∨ a.heap.size ≤ k) : Chg S a w' :=
  ⟨hg.os.trans h.os, hg.tape.trans h.tape, hg.output.trans h.output, Nat.le_trans h.size hg.size, fun k hk hs => (hg.block k (Nat.lt_of_lt_of_le hk h.size) (fun e => by rcases hr k e.symm with h1 | h1 <;> first | exact hs h1 | omega)).trans (h.block k hk hs)⟩

/-- The cells of a block of integers, as a function of the place. -/
structure TabW (w : World) (g M : Nat) (T : Nat → Int) : Prop where
  cell : ∀ o, o < M → w.cell? ⟨g, o, none⟩ = some (.int .i64 (T o))
  froz : ∀ o, w.frozen? ⟨g, o, none⟩ = false
  lt : g < w.heap.size

def updT (T : Nat → Int) (o : Nat) (v : Int) : Nat → Int := fun x => if x = o then v else T x

theorem updT_same (T : Nat → Int) (o : Nat) (v : Int) : updT T o v o = v := by simp [updT]
theorem updT_other (T : Nat → Int) (o x : Nat) (v : Int) (h : x ≠ o) : updT T o v x = T x := by simp [updT, h]

theorem TabW.set {w : World} {g M : Nat} {T : Nat → Int} (h : TabW w g M T) {o : Nat} (v : Int) : TabW (w.setCell ⟨g, o, none⟩ (.int .i64 v)) g M (updT T o v) := by
  refine ⟨fun x hx => ?_, fun x => ?_, by have := h.lt; simp [World.setCell]; omega⟩
  · by_cases e : x = o
    · subst e; rw [World.cell?_setCell_same _ _ _ (h.cell x hx), updT_same]
    · rw [World.cell?_setCell_other _ _ _ _ (by intro h2; cases h2; exact e rfl), updT_other _ _ _ _ e]; exact h.cell x hx
  · rw [World.frozen?_setCell]; exact h.froz x

theorem TabW.chg {S : List Nat} {w w' : World} {g M : Nat} {T : Nat → Int} (h : TabW w g M T) (hb : Chg S w w') (hs : g ∉ S) : TabW w' g M T :=
  ⟨fun o ho => (hb.cell (p := ⟨g, o, none⟩) h.lt hs).trans (h.cell o ho), fun o => (hb.frozen (p := ⟨g, o, none⟩) h.lt hs).trans (h.froz o), Nat.lt_of_lt_of_le h.lt hb.size⟩
theorem TabW.below {w w' : World} {g M : Nat} {T : Nat → Int} (h : TabW w g M T) (hb : Below w.heap.size w w') : TabW w' g M T := h.chg (S := []) (Chg.of_below hb) (by simp)

theorem made_tab (w : World) (z : Array Value) (e n k : Nat) (hk : 0 < k) (hz : z = (List.replicate k (Value.int .i64 0)).toArray) : TabW (w.alloc (.cells (madeCells z (n * k)) e)) w.heap.size (n * k) (fun _ => 0) := by
  have hh : (w.alloc (.cells (madeCells z (n * k)) e)).heap[w.heap.size]? = some (.cells (madeCells z (n * k)) e) := by show (w.heap.push _)[w.heap.size]? = _; simp
  refine ⟨fun o ho => ?_, fun o => ?_, by simp⟩
  · rw [cell_of_row _ _ _ _ _ _ hh]
    simp only [madeCells, Array.getElem?_map]
    rw [Array.getElem?_eq_getElem (by simpa using ho)]
    simp only [Option.map_some, Array.getElem_range]
    subst hz
    have hm : o % (List.replicate k (Value.int .i64 0)).toArray.size < k := by simpa using Nat.mod_lt _ hk
    rw [getElem!_pos _ _ (by simpa using hm)]
    simp
  · unfold World.frozen?
    simp only [hh]
    simp

/-- The bytes of a slice. -/
abbrev RdU (w : World) (a : Option Addr) (n : Nat) (zs : List Int) : Prop := Rd w a n (zs.map (Value.int .u8))

end Go.Proofs.Ytifgpjhodajccaa
