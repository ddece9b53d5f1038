/-
  The walk of modes.Best: its bits. Condition: the slice's length is at most its capacity.
-/
import Derived.Test.YtifgpjhodajccaaWalkF
namespace Go.Proofs.Ytifgpjhodajccaa
open Go.RowKit

/-- The three modes. -/
def mo : Nat → Nat
  | 0 => 1
  | 1 => 2
  | _ => 4

theorem mo_mode (k : Nat) : isMode (mo k) := by
  match k with
  | 0 => exact .inl rfl
  | 1 => exact .inr (.inl rfl)
  | _ + 2 => exact .inr (.inr rfl)

/-- The blocks are different. -/
structure Dist (gp : Nat) (gw ge : Nat → Nat) : Prop where
  pw : ∀ j, j < 3 → gp ≠ gw j
  pe : ∀ j, j < 3 → gp ≠ ge j
  ww : ∀ i j, i < 3 → j < 3 → i ≠ j → gw i ≠ gw j
  ee : ∀ i j, i < 3 → j < 3 → i ≠ j → ge i ≠ ge j
  we : ∀ i j, i < 3 → j < 3 → gw i ≠ ge j

/-- The memory of Best. -/
structure BestW (w : World) (base gp : Nat) (gw ge : Nat → Nat) (cl n lo : Nat) (P : Nat → Pl) (Ws : Nat → Wq) (c : Nat → Nat) : Prop where
  plans : PlanW w gp n lo P
  there : w.there gp 0 ((n + 1) * 4)
  wins : ∀ j, j < 3 → WinW w (gw j) (ge j) (mo j) cl n (Ws j) (c j)
  dist : Dist gp gw ge
  lp : base ≤ gp
  lw : ∀ j, j < 3 → base ≤ gw j
  le : ∀ j, j < 3 → base ≤ ge j

theorem there_chg {S : List Nat} {w w' : World} {g o n : Nat} (h : w.there g o n) (hc : Chg S w w') (hl : g < w.heap.size) (hs : g ∉ S) : w'.there g o n := fun j hj =>
  ⟨by rw [hc.cell (p := ⟨g, o + j, none⟩) hl hs]; exact (h j hj).1, by rw [hc.frozen (p := ⟨g, o + j, none⟩) hl hs]; exact (h j hj).2⟩

theorem BestW.chg {S : List Nat} {w w' : World} {base gp : Nat} {gw ge : Nat → Nat} {cl n lo : Nat} {P : Nat → Pl} {Ws : Nat → Wq} {c : Nat → Nat} (h : BestW w base gp gw ge cl n lo P Ws c) (hc : Chg S w w') (hS : ∀ k ∈ S, k < base) : BestW w' base gp gw ge cl n lo P Ws c := by
  have hp : gp ∉ S := fun hm => by have := hS _ hm; have := h.lp; omega
  exact ⟨h.plans.chg hc hp, there_chg h.there hc h.plans.lt hp, fun j hj => (h.wins j hj).chg hc (fun hm => by have := hS _ hm; have := h.lw j hj; omega) (fun hm => by have := hS _ hm; have := h.le j hj; omega), h.dist, h.lp, h.lw, h.le⟩

theorem WinW.mono {w : World} {gw ge m cl n : Nat} {W : Wq} {c c' : Nat} (h : WinW w gw ge m cl n W c) (hc : c ≤ c') : WinW w gw ge m cl n W c' :=
  ⟨h.blk, h.ends, h.ne, fun k hk => let ⟨A, O, hO, hq⟩ := h.que k hk; ⟨A, O, Nat.le_trans hO hc, hq⟩⟩

/-- One window has been turned. -/
theorem BestW.turn {w w' : World} {base gp : Nat} {gw ge : Nat → Nat} {cl n lo : Nat} {P : Nat → Pl} {Ws Ws' : Nat → Wq} {c c' : Nat → Nat} (h : BestW w base gp gw ge cl n lo P Ws c) {k : Nat} (hk : k < 3) (hc : Chg [gw k, ge k] w w')
    (hW : WinW w' (gw k) (ge k) (mo k) cl n (Ws' k) (c' k)) (hother : ∀ j, j < 3 → j ≠ k → Ws' j = Ws j ∧ c' j = c j) : BestW w' base gp gw ge cl n lo P Ws' c' := by
  have hp : gp ∉ [gw k, ge k] := by have h1 := h.dist.pw k hk; have h2 := h.dist.pe k hk; simp [h1, h2]
  refine ⟨h.plans.chg hc hp, there_chg h.there hc h.plans.lt hp, fun j hj => ?_, h.dist, h.lp, h.lw, h.le⟩
  by_cases e : j = k
  · subst e; exact hW
  · obtain ⟨e1, e2⟩ := hother j hj e
    rw [e1, e2]
    refine (h.wins j hj).chg hc ?_ ?_
    · have h1 := h.dist.ww j k hj hk e; have h2 := h.dist.we j k hj hk; simp [h1, h2]
    · have h1 := h.dist.ee j k hj hk e; have h2 := h.dist.we k j hk hj; simp [h1, Ne.symm h2]

theorem BestW.congr {w : World} {base gp : Nat} {gw ge : Nat → Nat} {cl n lo : Nat} {P : Nat → Pl} {Ws Ws' : Nat → Wq} {c c' : Nat → Nat} (h : BestW w base gp gw ge cl n lo P Ws c) (hW : ∀ j, j < 3 → Ws j = Ws' j) (hc : ∀ j, j < 3 → c j = c' j) : BestW w base gp gw ge cl n lo P Ws' c' :=
  ⟨h.plans, h.there, fun j hj => by rw [← hW j hj, ← hc j hj]; exact h.wins j hj, h.dist, h.lp, h.lw, h.le⟩

theorem BestW.chg2 {S : List Nat} {w w' : World} {base gp : Nat} {gw ge : Nat → Nat} {cl n lo : Nat} {P : Nat → Pl} {Ws : Nat → Wq} {c : Nat → Nat} (h : BestW w base gp gw ge cl n lo P Ws c) (hc : Chg S w w') (hp : gp ∉ S) (hw : ∀ j, j < 3 → gw j ∉ S ∧ ge j ∉ S) : BestW w' base gp gw ge cl n lo P Ws c :=
  ⟨h.plans.chg hc hp, there_chg h.there hc h.plans.lt hp, fun j hj => (h.wins j hj).chg hc (hw j hj).1 (hw j hj).2, h.dist, h.lp, h.lw, h.le⟩

theorem Chg.setCells {S : List Nat} {a : World} {b : Nat} (hb : b ∈ S ∨ a.heap.size ≤ b) : ∀ (vs : List Value) (o : Nat) (w : World), Chg S a w → Chg S a (w.setCells b o vs)
  | [], _, _, h => h
  | v :: r, o, w, h => by
    rw [World.setCells]
    exact Chg.setCells hb r (o + 1) _ (h.setCell hb v)

/-- A plan is stored. -/
theorem BestW.put {w : World} {base gp : Nat} {gw ge : Nat → Nat} {cl n p : Nat} {P P' : Nat → Pl} {Ws : Nat → Wq} {c : Nat → Nat} (h : BestW w base gp gw ge cl n (p + 1) P Ws c) (hp : p < n) (hP : ∀ e, p < e → P' e = P e) :
    BestW (w.setCells gp (p * 4) [.int .i64 (P' p).bits, .int .i64 (P' p).segs, .int .i64 (P' p).size, .int .i64 (P' p).mode]) base gp gw ge cl n p P' Ws c := by
  have hc : Chg [gp] w (w.setCells gp (p * 4) [.int .i64 (P' p).bits, .int .i64 (P' p).segs, .int .i64 (P' p).size, .int .i64 (P' p).mode]) := Chg.setCells (.inl (by simp)) _ _ _ (Chg.refl _ _)
  have ht : w.there gp (p * 4) 4 := fun j hj => by
    have := h.there (p * 4 + j) (by omega)
    simpa using this
  have hsame := World.rangeAt_setCells_same w gp (p * 4) [.int .i64 (P' p).bits, .int .i64 (P' p).segs, .int .i64 (P' p).size, .int .i64 (P' p).mode] ht
  refine ⟨⟨Nat.lt_of_lt_of_le h.plans.lt hc.size, fun e he hen => ?_⟩, World.there_setCells h.there _ _ _, fun j hj => ?_, h.dist, h.lp, h.lw, h.le⟩
  · by_cases e1 : e = p
    · subst e1
      exact ⟨hsame 0 _ rfl, hsame 1 _ rfl, hsame 2 _ rfl, hsame 3 _ rfl⟩
    · rw [hP e (by omega)]
      obtain ⟨c0, c1, c2, c3⟩ := h.plans.cells e (by omega) hen
      have far : ∀ j, j < 4 → (w.setCells gp (p * 4) [.int .i64 (P' p).bits, .int .i64 (P' p).segs, .int .i64 (P' p).size, .int .i64 (P' p).mode]).cell? ⟨gp, e * 4 + j, none⟩ = w.cell? ⟨gp, e * 4 + j, none⟩ := fun j hj =>
        World.cell?_setCells_out gp _ (p * 4) w ⟨gp, e * 4 + j, none⟩ (fun _ _ => .inr (by show p * 4 + 4 ≤ e * 4 + j; omega))
      exact ⟨(far 0 (by omega)).trans c0, (far 1 (by omega)).trans c1, (far 2 (by omega)).trans c2, (far 3 (by omega)).trans c3⟩
  · exact (h.wins j hj).chg hc (by have := h.dist.pw j hj; simp; exact fun e => this e.symm) (by have := h.dist.pe j hj; simp; exact fun e => this e.symm)

end Go.Proofs.Ytifgpjhodajccaa
