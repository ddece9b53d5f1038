/-
  Plain helpers on rows of a call's own. No condition.
-/
import Derived.Test.YtifgpjhodajccaaMem
import Derived.OwnWalk
import Derived.Laws.AppendOwn
namespace Go.Proofs.Ytifgpjhodajccaa
open Go.RowKit

theorem cells_new {e : Nat} (w : World) (xs : List Value) : ∀ j u, xs[j]? = some u → (w.alloc (.cells xs.toArray e)).cell? ((⟨w.heap.size, 0, none⟩ : Addr).add j) = some u := by
  intro j u hu
  have : (⟨w.heap.size, 0, none⟩ : Addr).add j = ⟨w.heap.size, j, none⟩ := by
    unfold Addr.add
    split
    · rename_i h; subst h; rfl
    · simp
  rw [this, World.cell?_alloc_at _ _ _ _ rfl]
  simpa using hu

theorem below_app3 {B e size n : Nat} {w wr w1 : World} {o : Obj} {v : Value} {xs : List Value} (hB : Below B w wr) (hs : B ≤ wr.heap.size) (hown : wr.ownsRow B e size v n xs)
    (hg : (wr.alloc o).grownBy w1 v.ownBlock) : Below B w w1 := by
  refine (hB.alloc hs o).grown hg (by simp; omega) ?_
  intro k hk
  rcases hown.2 with ⟨rfl, _⟩ | ⟨g, cap, cur, rfl, hg', _⟩
  · simp [Value.ownBlock] at hk
  · simp [Value.ownBlock] at hk; omega

theorem own_congr3 {B e size n n' : Nat} {w : World} {v : Value} {xs xs' : List Value} (h : w.ownsRow B e size v n xs) (hn : n = n') (hx : xs = xs') : w.ownsRow B e size v n' xs' := by
  subst hn; subst hx; exact h

theorem cells_new2 {e : Nat} (w : World) (xs : List Value) (n : Nat) (hn : n = w.heap.size) : ∀ j u, xs[j]? = some u → (w.alloc (.cells xs.toArray e)).cell? ((⟨n, 0, none⟩ : Addr).add j) = some u := by
  subst hn; exact cells_new w xs

theorem own_below {w w' : World} {B e s n : Nat} {v : Value} {xs : List Value} (h : w.ownsRow B e s v n xs) (hb : Below w.heap.size w w') : w'.ownsRow B e s v n xs := by
  obtain ⟨h1, h2⟩ := h
  refine ⟨h1, ?_⟩
  rcases h2 with h2 | ⟨g, cap, cur, e1, e2, hg, e3⟩
  · exact .inl h2
  · exact .inr ⟨g, cap, cur, e1, e2, (hb.block g (Array.getElem?_eq_some_iff.1 hg).1).trans hg, e3⟩

theorem rd_cells {w : World} {a : Addr} {n : Nat} {xs : List Value} (h : Rd w (some a) n xs) : ∀ j u, xs[j]? = some u → w.cell? (a.add j) = some u := by
  intro j u hj
  have hlt : j < xs.length := (List.getElem?_eq_some_iff.1 hj).1
  obtain ⟨b, off, e, hc⟩ := h.cell j (by rw [← h.len]; exact hlt)
  cases e
  rw [Addr.add_mid, hc]
  simp [hj]

theorem below_grow1 {B B' e s n : Nat} {w wr w1 : World} {v : Value} {xs : List Value} (hB : Below B w wr) (hown : wr.ownsRow B' e s v n xs) (h : B ≤ B') (hs : B ≤ wr.heap.size) (hg : wr.grownBy w1 v.ownBlock) : Below B w w1 := by
  refine hB.grown hg hs ?_
  intro k hk
  rcases hown.2 with ⟨rfl, _⟩ | ⟨g, cap, cur, rfl, hg', _⟩
  · simp [Value.ownBlock] at hk
  · simp [Value.ownBlock] at hk; omega

theorem own_base {w : World} {B B' e s n : Nat} {v : Value} {xs : List Value} (h : w.ownsRow B e s v n xs) (hb : B' ≤ B) : w.ownsRow B' e s v n xs := by
  obtain ⟨h1, h2⟩ := h
  refine ⟨h1, ?_⟩
  rcases h2 with h2 | ⟨g, cap, cur, e1, e2, h3⟩
  · exact .inl h2
  · exact .inr ⟨g, cap, cur, e1, Nat.le_trans hb e2, h3⟩

theorem own_apart {w : World} {B B' e e' s s' n n' : Nat} {v v' : Value} {xs xs' : List Value} (h : w.ownsRow B e s v n xs) (h' : w.ownsRow B' e' s' v' n' xs') (hne : e ≠ e') : v.ownBlock = none ∨ v.ownBlock ≠ v'.ownBlock := by
  rcases h.2 with ⟨rfl, _⟩ | ⟨g, cap, cur, rfl, _, hg, _⟩
  · exact .inl rfl
  · right
    rcases h'.2 with ⟨rfl, _⟩ | ⟨g', _, _, rfl, _, hg', _⟩
    · simp [Value.ownBlock]
    · intro e1
      have e2 : g = g' := by simpa [Value.ownBlock] using e1
      subst e2
      rw [hg] at hg'
      cases hg'
      exact hne rfl

/-- The cells of a part of a slice. -/
theorem rd_sub {α : Type} {f : α → Value} {w : World} {b off n : Nat} {zs : List α} (h : Rd w (some ⟨b, off, none⟩) n (zs.map f)) (q sz : Nat) (hq : q + sz ≤ n) : ∀ j u, (((zs.drop q).take sz).map f)[j]? = some u → w.cell? ((⟨b, off + q, none⟩ : Addr).add j) = some u := by
  intro j u hj
  have hl := h.length
  have hjs : j < sz := by
    have := (List.getElem?_eq_some_iff.1 hj).1
    simp at this; omega
  obtain ⟨b', off', e, hc⟩ := h.cell (q + j) (by omega)
  cases e
  rw [Addr.add_mid, Nat.add_assoc, hc]
  rw [List.getElem?_map, List.getElem?_take_of_lt hjs, List.getElem?_drop] at hj
  rw [List.getD_eq_getElem?_getD, List.getElem?_map, hj]
  rfl

theorem Rd.sub {α : Type} {f : α → Value} {w : World} {b off n : Nat} {zs : List α} (h : Rd w (some ⟨b, off, none⟩) n (zs.map f)) (q sz : Nat) (hq : q + sz ≤ n) : Rd w (some ⟨b, off + q, none⟩) sz (((zs.drop q).take sz).map f) := by
  have hl := h.length
  refine ⟨by simp; omega, by have := h.le; omega, fun k hk => ⟨b, off + q, rfl, ?_⟩⟩
  have := rd_sub h q sz hq k
  have hlt : k < (((zs.drop q).take sz).map f).length := by simp; omega
  have h2 := this _ (List.getElem?_eq_getElem hlt)
  rw [Addr.add_mid] at h2
  rw [h2, List.getD_eq_getElem?_getD, List.getElem?_eq_getElem hlt]
  rfl

end Go.Proofs.Ytifgpjhodajccaa
