/-
  The walks of clear, push and choose of modes' windows. Condition: the numbers are small.
-/
import Derived.Test.YtifgpjhodajccaaWalkC
import Derived.Deep.LoopGhost
import Derived.BigRegion
import Derived.Deep.RegionHeld3
import Derived.Deep.RegionLaw
import Derived.Deep.AppendLies
import Derived.Lib.AppendZeros
namespace Go.Proofs.Ytifgpjhodajccaa
open Go.RowKit

theorem WinW.drew {w : World} {gw ge m cl n : Nat} {W : Wq} {c : Nat} (h : WinW w gw ge m cl n W c) : WinW w.drew gw ge m cl n W c := h.chg (S := []) ((Chg.refl _ _).drew) (by simp) (by simp)
theorem WinW.drewN {w : World} {gw ge m cl n : Nat} {W : Wq} {c : Nat} (h : WinW w gw ge m cl n W c) (q : Nat) : WinW (w.drewN q) gw ge m cl n W c := h.chg (S := []) ((Chg.refl _ _).drewN q) (by simp) (by simp)

theorem WinW.nil_of {w : World} {gw ge m cl n : Nat} {W : Wq} {c : Nat} (h : WinW w gw ge m cl n W c) (hn : ∀ j, j < 3 → W.get j = []) : WinW w gw ge m cl n Wq.nil c := by
  refine ⟨h.blk, h.ends, h.ne, fun k hk => ?_⟩
  obtain ⟨A, O, hO, hq⟩ := h.que k hk
  have e : Wq.nil.get k = W.get k := by
    rw [hn k hk]
    match k, hk with
    | 0, _ => rfl
    | 1, _ => rfl
    | 2, _ => rfl
  exact ⟨A, O, by rw [e]; exact hO, by rw [e]; exact hq⟩

set_option maxRecDepth 100000 in
set_option maxHeartbeats 4000000 in
theorem clear_any (gw ge m cl n c : Nat) (W : Wq) (w : World) (h : WinW w gw ge m cl n W c) :
    Calls Try.prog 49 #[.pointer (some ⟨gw, 0, none⟩)] w fun e w' => e = .returned (.tuple #[]) ∧ WinW w' gw ge m cl n Wq.nil c ∧ Chg [gw] w w' := by
  have H := Lib.hid h
  clear h
  go_enter Try.func49, Try.ntmps49
  go_wp2
  go_loopg [3] 3 (fun r x wr => ∃ (k : Nat) (W' : Wq), k + r = 3 ∧ x = .int .i64 k ∧ Hid (WinW wr gw ge m cl n W' c) ∧ Chg [gw] w wr ∧ Hid (∀ j, j < k → W'.get j = []))
  case atStart => exact ⟨0, W, rfl, rfl, H, Chg.refl _ _, Lib.hid fun j hj => absurd hj (by omega)⟩
  case round =>
    clear H
    obtain ⟨k, W', hk, rfl, hW, hC, hN⟩ := hrel
    by_cases hlt : k < 3
    · obtain ⟨A, O, hO, hq⟩ := hW.out.que k hlt
      obtain ⟨v0, v1, v2, hb⟩ := hW.out.blk
      have s0 := hq.slot
      have s1 := froz_of_blk hb (9 + k)
      have q0 : (0 : Int) ≤ (k : Int) := by omega
      have q1 : (k : Int) < 3 := by omega
      clear hb
      go_wp2_with fail
      go_region
      all_goals
        go_wp2
        go_roundg (2 - k)
        case rel =>
          refine ⟨k + 1, W'.set k [], by omega, by go_num, Lib.hid (WinW.drew ((hW.out.store (Nat.le_refl _) hlt [] A O (by simp; omega) (by simp) hq.adr (by have := hq.fit; simp; omega)))), (hC.setCell (.inl (by simp)) _).drew, Lib.hid fun j hj => ?_⟩
          by_cases e : j = k
          · subst e; exact Wq.get_set_same _ hlt _
          · rw [Wq.get_set_other _ hlt (by omega) e]; exact hN.out j (by omega)
        case measure => omega
    · obtain rfl : k = 3 := by omega
      go_wp2
      refine bodyPost_end (results_none rfl _ _ _) rfl ?_
      exact ⟨rfl, hW.out.nil_of hN.out, hC⟩

/-- An append whose run is known, at a step of a region that draws its order. -/
theorem step_append_run {P : Program} {w : World} {ops : Array Oper} {o : Oper} {a : Act} {K : Act → World → Prop} {Q : Exit → Act → World → Prop} {E : Prop} (hgd : o.guard = none) (s x : Operand) (t tn : TypeId)
    (ho : o.op = .call { callee := .builtin .append, args := #[s, x], argTypes := #[t, tn] }) (vs vx : Value) (hs : a.eval s = vs) (hx : a.eval x = vx)
    (v' : Value) (w' : World) (hr : (Builtin.append_ #[t, tn] o.type #[vs, vx]).run P w = .ok v' w') (h : K (a.put o.dst v') w') :
    if Region.wanted o (yielded ops a.tmps) = true then Oper.wp P o a w K Q else E := by
  have hw : Region.wanted o (yielded ops a.tmps) = true := by simp [Region.wanted, hgd]
  rw [if_pos hw]
  exact Lib.wp_append_run w s x t tn ho vs vx hs hx v' w' hr h

/-- An append of one number in place, in the midst of a block. -/
theorem run_append_mid (w : World) (ty : TypeId) (ge A L C : Nat) (x : Int) (g : Nat) (u : Value) (hroom : L + 1 ≤ C) (hx : w.cell? ⟨g, 0, none⟩ = some (.int .i64 x)) (hc : w.cell? ⟨ge, A + L, none⟩ = some u) (hf : w.frozen? ⟨ge, A + L, none⟩ = false) :
    (Builtin.append_ #[26, 26] ty #[.slice (some ⟨ge, A, none⟩) L C, .slice (some ⟨g, 0, none⟩) 1 1]).run Try.prog w = .ok (.slice (some ⟨ge, A, none⟩) (L + 1) C) (w.setCell ⟨ge, A + L, none⟩ (.int .i64 x)) := by
  obtain ⟨i, hi⟩ : ∃ i, Try.prog.info? 3 = some i := by
    cases h : Try.prog.info? 3 with
    | none => have : (Try.prog.info? 3).isSome = true := by kernel_rfl
              rw [h] at this; cases this
    | some i => exact ⟨i, rfl⟩
  have hs : i.size = 1 := by
    have : (Try.prog.info? 3).map (·.size) = some 1 := by kernel_rfl
    rw [hi] at this; simpa using this
  have hfc := run_firstCells_some (P := Try.prog) w 1 1 ⟨g, 0, none⟩ 1 1 [.int .i64 x] (by simp) (by
    intro j v hj
    match j, hj with
    | 0, hj => simp at hj; subst hj; simpa [Addr.add_mid] using hx)
  have hst := run_storeCells_cells (P := Try.prog) ge (A + L) [.int .i64 x] 0 w (fun j hj => by
    obtain rfl : j = 0 := by simpa using hj
    simpa using (by rw [hc]; rfl : (w.cell? ⟨ge, A + L, none⟩).isSome = true)) (fun j hj => by
    obtain rfl : j = 0 := by simpa using hj
    simpa using hf) (by simp [Value.oneCell'])
  simp only [Nat.add_zero] at hst
  have hadd : (⟨ge, A, none⟩ : Addr).add L = ⟨ge, A + L, none⟩ := Addr.add_mid _ _ _
  simp [Builtin.append_, run_underlying Try.underlying26, sizeOf, typeInfo, hi, hs, Builtin.lenOf, hroom, hfc, hadd, hst, World.setCells]

/-- The plans in memory, from a place on. -/
structure PlanW (w : World) (gp n lo : Nat) (P : Nat → Pl) : Prop where
  lt : gp < w.heap.size
  cells : ∀ e, lo ≤ e → e ≤ n → w.cell? ⟨gp, e * 4, none⟩ = some (.int .i64 (P e).bits) ∧ w.cell? ⟨gp, e * 4 + 1, none⟩ = some (.int .i64 (P e).segs) ∧ w.cell? ⟨gp, e * 4 + 2, none⟩ = some (.int .i64 (P e).size) ∧ w.cell? ⟨gp, e * 4 + 3, none⟩ = some (.int .i64 (P e).mode)

theorem PlanW.chg {S : List Nat} {w w' : World} {gp n lo : Nat} {P : Nat → Pl} (h : PlanW w gp n lo P) (hc : Chg S w w') (hs : gp ∉ S) : PlanW w' gp n lo P :=
  ⟨Nat.lt_of_lt_of_le h.lt hc.size, fun e h1 h2 => by
    obtain ⟨c0, c1, c2, c3⟩ := h.cells e h1 h2
    exact ⟨(hc.cell (p := ⟨gp, _, none⟩) h.lt hs).trans c0, (hc.cell (p := ⟨gp, _, none⟩) h.lt hs).trans c1, (hc.cell (p := ⟨gp, _, none⟩) h.lt hs).trans c2, (hc.cell (p := ⟨gp, _, none⟩) h.lt hs).trans c3⟩⟩

/-- What the append of a push does, and where it may. -/
theorem push_app {w : World} {gw ge m cl n : Nat} {W : Wq} {c : Nat} (h : WinW w gw ge m cl n W c) {k : Nat} (hk : k < 3) (w' : World) (hw : Chg [] w w') (O L e : Nat) (hL : O + L < n) (hroom : L + 1 ≤ n - O) :
    ∃ u, w.frozen? ⟨gw, 9 + k, none⟩ = false ∧ (Builtin.append_ #[26, 26] 26 #[.slice (some ⟨ge, k * n + O, none⟩) L (n - O), .slice (some ⟨w'.heap.size, 0, none⟩) 1 1]).run Try.prog (w'.alloc (.cells #[.int .i64 e] 3)) =
      .ok (.slice (some ⟨ge, k * n + O, none⟩) (L + 1) (n - O)) ((w'.alloc (.cells #[.int .i64 e] 3)).setCell ⟨ge, k * n + O + L, none⟩ (.int .i64 e)) ∧ w.cell? ⟨ge, k * n + O + L, none⟩ = some u ∧
      (∃ v, ((w'.alloc (.cells #[.int .i64 e] 3)).setCell ⟨ge, k * n + O + L, none⟩ (.int .i64 e)).cell? ⟨gw, 9 + k, none⟩ = some v) ∧ (w'.alloc (.cells #[.int .i64 e] 3)).frozen? ⟨gw, 9 + k, none⟩ = false := by
  obtain ⟨v0, v1, v2, hb⟩ := h.blk
  obtain ⟨E, hE, hEs⟩ := h.ends
  obtain ⟨l1, l2⟩ := h.lt
  have hlt : k * n + O + L < E.size := by
    rw [hEs]
    have h1 : k * n ≤ 2 * n := Nat.mul_le_mul_right _ (by omega)
    omega
  have hcell : w.cell? ⟨ge, k * n + O + L, none⟩ = some E[k * n + O + L] := by rw [cell_of_row _ _ _ _ _ _ hE]; exact Array.getElem?_eq_getElem hlt
  have hw2 : Chg [] w (w'.alloc (.cells #[.int .i64 e] 3)) := hw.alloc _
  obtain ⟨A', O', _, hq⟩ := h.que k hk
  refine ⟨E[k * n + O + L], froz_of_blk hb _, ?_, hcell, ⟨_, (World.cell?_setCell_other _ _ _ _ (by intro h2; injection h2 with h3; exact h.ne h3.symm)).trans ((hw2.cell (p := ⟨gw, _, none⟩) l1 (by simp)).trans hq.slot)⟩, (hw2.frozen (p := ⟨gw, _, none⟩) l1 (by simp)).trans (froz_of_blk hb _)⟩
  refine run_append_mid _ 26 ge (k * n + O) L (n - O) e w'.heap.size E[k * n + O + L] hroom ?_ ?_ ?_
  · have hh : (w'.alloc (.cells #[.int .i64 e] 3)).heap[w'.heap.size]? = some (.cells #[.int .i64 e] 3) := by show (w'.heap.push _)[w'.heap.size]? = _; simp
    exact cell_of_blk hh _ rfl
  · exact (hw2.cell (p := ⟨ge, _, none⟩) l2 (by simp)).trans hcell
  · exact (hw2.frozen (p := ⟨ge, _, none⟩) l2 (by simp)).trans (froz_of_blk hE _)

theorem apart {j k n x y : Nat} (hx : x < n) (hy : y < n) (h : j ≠ k) : j * n + x ≠ k * n + y := by
  rcases Nat.lt_or_ge j k with h1 | h1
  · have : (j + 1) * n ≤ k * n := Nat.mul_le_mul_right _ h1
    rw [Nat.add_mul] at this
    omega
  · have : (k + 1) * n ≤ j * n := Nat.mul_le_mul_right _ (by omega)
    rw [Nat.add_mul] at this
    omega

/-- The window behind a push. -/
theorem push_done {w : World} {gw ge m cl n : Nat} {W : Wq} {c : Nat} (h : WinW w gw ge m cl n W c) {k : Nat} (hk : k < 3) (w' : World) (hw : Chg [] w w') (O : Nat) (q : List Nat) (e : Nat)
    (hcell : ∀ (t x : Nat), q[t]? = some x → w.cell? ⟨ge, k * n + O + t, none⟩ = some (.int .i64 x)) (hL : O + q.length < n) (hOc : O + q.length ≤ c) :
    WinW (((w'.alloc (.cells #[.int .i64 e] 3)).setCell ⟨ge, k * n + O + q.length, none⟩ (.int .i64 e)).setCell ⟨gw, 9 + k, none⟩ (.slice (some ⟨ge, k * n + O, none⟩) (q.length + 1) (n - O))) gw ge m cl n (W.set k (q ++ [e])) (c + 1) ∧
    Chg [gw, ge] w (((w'.alloc (.cells #[.int .i64 e] 3)).setCell ⟨ge, k * n + O + q.length, none⟩ (.int .i64 e)).setCell ⟨gw, 9 + k, none⟩ (.slice (some ⟨ge, k * n + O, none⟩) (q.length + 1) (n - O))) := by
  have hw2 : Chg [] w (w'.alloc (.cells #[.int .i64 e] 3)) := hw.alloc _
  have h2 : WinW (w'.alloc (.cells #[.int .i64 e] 3)) gw ge m cl n W c := h.chg hw2 (by simp) (by simp)
  obtain ⟨l1, l2⟩ := h.lt
  have hcell2 : ∀ (t x : Nat), q[t]? = some x → (w'.alloc (.cells #[.int .i64 e] 3)).cell? ⟨ge, k * n + O + t, none⟩ = some (.int .i64 x) := fun t x hx => (hw2.cell (p := ⟨ge, _, none⟩) l2 (by simp)).trans (hcell t x hx)
  have hchg : Chg [gw, ge] w (((w'.alloc (.cells #[.int .i64 e] 3)).setCell ⟨ge, k * n + O + q.length, none⟩ (.int .i64 e)).setCell ⟨gw, 9 + k, none⟩ (.slice (some ⟨ge, k * n + O, none⟩) (q.length + 1) (n - O))) :=
    ((hw2.mono (by simp)).setCell (.inl (by simp)) _).setCell (.inl (by simp)) _
  refine ⟨?_, hchg⟩
  clear hchg hcell
  generalize w'.alloc (.cells #[.int .i64 e] 3) = v at *
  obtain ⟨v0, v1, v2, hb⟩ := h2.blk
  obtain ⟨E, hE, hEs⟩ := h2.ends
  have hne := h2.ne
  have hlt : k * n + O + q.length < E.size := by
    rw [hEs]
    have h1 : k * n ≤ 2 * n := Nat.mul_le_mul_right _ (by omega)
    omega
  have hEc : v.cell? ⟨ge, k * n + O + q.length, none⟩ = some E[k * n + O + q.length] := by rw [cell_of_row _ _ _ _ _ _ hE]; exact Array.getElem?_eq_getElem hlt
  obtain ⟨u0, u1, u2, hset⟩ := winV_set m cl v0 v1 v2 (.slice (some ⟨ge, k * n + O, none⟩) (q.length + 1) (n - O)) k hk
  have hb' : (v.setCell ⟨ge, k * n + O + q.length, none⟩ (.int .i64 e)).heap[gw]? = some (.cells (winV m cl v0 v1 v2) 94 (0, 0)) := (Below.heap_setCell _ _ _ _ hne).trans hb
  refine ⟨⟨u0, u1, u2, ?_⟩, ⟨E.setIfInBounds (k * n + O + q.length) (.int .i64 e), ?_, by simpa using hEs⟩, hne, fun j hj => ?_⟩
  · rw [← hset]; exact heap_setCell_same _ gw (9 + k) _ 94 _ hb'
  · exact (Below.heap_setCell _ _ _ _ (fun e => hne e.symm)).trans (heap_setCell_same v ge _ E 3 _ hE)
  · have hu : ∃ u, (v.setCell ⟨ge, k * n + O + q.length, none⟩ (.int .i64 e)).cell? ⟨gw, 9 + k, none⟩ = some u := by
      obtain ⟨A', O', _, hq⟩ := h2.que k hk
      exact ⟨_, (World.cell?_setCell_other _ _ _ _ (by intro h3; injection h3 with h4; exact hne h4.symm)).trans hq.slot⟩
    obtain ⟨u, hu⟩ := hu
    by_cases ej : j = k
    · subst ej
      refine ⟨j * n + O, O, by rw [Wq.get_set_same _ hk]; simp; omega, ?_⟩
      rw [Wq.get_set_same _ hk]
      refine ⟨?_, fun t x hx => ?_, fun _ => rfl, by simp; omega⟩
      · rw [World.cell?_setCell_same _ _ _ hu]; simp
      · refine (World.cell?_setCell_other _ _ _ _ (by intro h3; injection h3 with h4; exact hne h4)).trans ?_
        by_cases et : t = q.length
        · subst et
          rw [World.cell?_setCell_same _ _ _ hEc]
          simp at hx
          rw [hx]
        · have ht : t < q.length := by
            have := (List.getElem?_eq_some_iff.1 hx).1
            simp at this; omega
          rw [List.getElem?_append_left ht] at hx
          refine (World.cell?_setCell_other _ _ _ _ (by intro h3; injection h3 with h4 h5; omega)).trans (hcell2 t x hx)
    · obtain ⟨A', O', hO', hq⟩ := h2.que j hj
      refine ⟨A', O', by rw [Wq.get_set_other _ hk hj ej]; omega, ?_⟩
      rw [Wq.get_set_other _ hk hj ej]
      refine ⟨?_, fun t x hx => ?_, hq.adr, hq.fit⟩
      · refine (World.cell?_setCell_other _ _ _ _ (by intro h3; injection h3 with h4 h5; omega)).trans ?_
        exact (World.cell?_setCell_other _ _ _ _ (by intro h3; injection h3 with h4; exact hne h4.symm)).trans hq.slot
      · refine (World.cell?_setCell_other _ _ _ _ (by intro h3; injection h3 with h4; exact hne h4)).trans ?_
        have ht : t < (W.get j).length := (List.getElem?_eq_some_iff.1 hx).1
        have hf := hq.fit
        have hap := apart (n := n) (x := O' + t) (y := O + q.length) (by omega) hL ej
        exact (World.cell?_setCell_other _ _ _ _ (by intro h3; injection h3 with h4 h5; omega)).trans (hq.cell t x hx)

theorem popB_nil (f : Nat → Bool) : popB f [] = [] := rfl
theorem popB_last (f : Nat → Bool) (q : List Nat) (x : Nat) : popB f (q ++ [x]) = if f x = true then popB f q else q ++ [x] := by
  unfold popB
  rw [List.reverse_append]
  simp only [List.reverse_cons, List.reverse_nil, List.nil_append, List.cons_append, List.dropWhile_cons]
  split
  · rfl
  · simp

set_option maxRecDepth 100000 in
set_option maxHeartbeats 4000000 in
theorem push_any {m cl : Nat} (hm : isMode m) (gw ge gp n pc c e : Nat) (W : Wq) (P : Nat → Pl) (w : World) (h : WinW w gw ge m cl n W c) (hP : PlanW w gp n e P) (hok : ∀ x, e ≤ x → x ≤ n → okPl n x (P x)) (hq : okW n e W) (he : e ≤ n) (hn : n ≤ 4900) (hc : c < n) :
    Calls Try.prog 50 #[.pointer (some ⟨gw, 0, none⟩), .slice (some ⟨gp, 0, none⟩) (n + 1) pc, .int .i64 e] w
      fun r w' => r = .returned (.tuple #[]) ∧ WinW w' gw ge m cl n (pushF m P e W) (c + 1) ∧ Chg [gw, ge] w w' := by
  have hu := unit_bnd hm
  obtain ⟨k, hk⟩ : ∃ k, e % (packF m).unit = k := ⟨_, rfl⟩
  have hk3 : k < 3 := by have := Nat.mod_lt e (show 0 < (packF m).unit by omega); omega
  obtain ⟨_, c1, _, c3, _, _, _, _, _⟩ := h.consts
  obtain ⟨A, O, hO, hqu⟩ := h.que k hk3
  have hqk := okW_get hq k
  have hpf : pushF m P e W = W.set k (popB (fun x => worseF (packF m) P x e) (W.get k) ++ [e]) := by unfold pushF; rw [hk]
  have hq1 : ((packF m).unit : Int) ≠ 0 := by omega
  have hd2 : (e : Int).tmod ((packF m).unit : Int) = (k : Int) := by rw [Int.tmod_eq_emod_of_nonneg (Int.natCast_nonneg _), ← hk]; rfl
  have hadr : A = k * n + O := hqu.adr (by omega)
  subst hadr
  obtain ⟨be0, be1, _, _⟩ := hP.cells e (Nat.le_refl _) he
  have hoke := hok e (Nat.le_refl _) he
  have HPF := Lib.hid hpf
  have H := Lib.hid h
  have HP := Lib.hid hP
  have HOK := Lib.hid hok
  have HQK := Lib.hid hqk
  have HU := Lib.hid hu
  have s0 := hqu.slot
  have HQC := Lib.hid hqu.cell
  have hfit := hqu.fit
  have q0 : (0 : Int) ≤ (k : Int) := by omega
  have q1 : (k : Int) < 3 := by omega
  unfold okPl at hoke
  have HOKE := Lib.hid hoke
  clear hpf h hP hok hqk hk hqu hoke hq
  obtain ⟨Q, hQ⟩ : ∃ Q, W.get k = Q := ⟨_, rfl⟩
  rw [hQ] at s0 HQC hfit HPF HQK hO
  have HQ := Lib.hid hQ
  clear hQ
  go_enter Try.func50, Try.ntmps50
  go_wp2_with fail
  go_loopg [7] Q.length (fun r x wr => ∃ (q : List Nat), r = q.length ∧ q.length ≤ Q.length ∧ x = .slice (some ⟨ge, k * n + O, none⟩) q.length (n - O) ∧ (∃ z, wr = w.drewN z) ∧ Hid (∀ (t x : Nat), q[t]? = some x → w.cell? ⟨ge, k * n + O + t, none⟩ = some (.int .i64 x)) ∧ Hid (∀ x ∈ q, x ∈ Q) ∧ Hid (popB (fun x => worseF (packF m) P x e) q = popB (fun x => worseF (packF m) P x e) Q))
  case atStart => exact ⟨Q, rfl, Nat.le_refl _, rfl, ⟨0, rfl⟩, HQC, Lib.hid fun x hx => hx, rfl⟩
  case round =>
    obtain ⟨q, rfl, hql, rfl, ⟨z, rfl⟩, hcell, hsub, hpop⟩ := hrel
    rcases List.eq_nil_or_concat q with rfl | ⟨q', x, rfl⟩
    · obtain ⟨u, s1, happ, t2, ⟨u2, t3⟩, t4⟩ := push_app H.out hk3 (w.drewN (z + 1)) ⟨rfl, rfl, rfl, Nat.le_refl _, fun _ _ _ => rfl⟩ O 0 e (by omega) (by omega)
      have HAPP := Lib.hid happ
      clear happ
      simp only [List.length_nil, Nat.add_zero] at *
      go_wp2_with fail
      go_region_law ((refine step_append_run (by rfl) _ _ _ _ (by rfl) _ _ (by rfl) (by rfl) _ _ HAPP.out ?_))
      all_goals
        refine bodyPost_end (results_none rfl _ _ _) rfl ?_
        refine ⟨rfl, ?_⟩
        rw [HPF.out, ← hpop.out]
        exact push_done H.out hk3 (w.drewN (z + 1)) ⟨rfl, rfl, rfl, Nat.le_refl _, fun _ _ _ => rfl⟩ O [] e (by simp) (by simp; omega) (by simp; omega)
    · simp only [List.concat_eq_append] at *
      have hx : w.cell? ⟨ge, k * n + O + q'.length, none⟩ = some (.int .i64 x) := hcell.out q'.length x (by simp)
      have hxb := HQK.out x (hsub.out x (by simp))
      obtain ⟨xa0, xa1, _, _⟩ := HP.out.cells x (by omega) (by omega)
      have hokx := HOK.out x (by omega) (by omega)
      unfold okPl at hokx
      have hoke := HOKE.out
      have hcall := worse_any hm gw gp (n + 1) pc x e (P x) (P e) (w.drewN z) c1 c3 xa0 xa1 be0 be1 (by omega) (by omega) (by omega) (by omega) (by omega) (by omega) (by omega)
      rw [← worse_key] at hcall
      have HC := Lib.hid hcall
      have hlen : (((q' ++ [x]).length : Nat) : Int) = (q'.length : Int) + 1 := by simp
      have hpl := popB_last (fun x => worseF (packF m) P x e) q' x
      have HPL := Lib.hid hpl
      clear hcall hokx hoke hpl
      cases hw : worseF (packF m) P x e with
      | true =>
        have hpl := HPL.out
        rw [if_pos hw] at hpl
        have HPL2 := Lib.hid hpl
        have hc2 := HC.out
        rw [hw] at hc2
        have HC2 := Lib.hid hc2
        clear hpl hc2 hw HC HPL
        go_wp2_with (go_at_call 75; refine HC2.out.mono ?_; rintro r w' ⟨rfl, z2, rfl⟩)
        go_roundg q'.length
        case rel => exact ⟨q', rfl, by have := hql; simp at this; omega, rfl, ⟨z + z2, rfl⟩, Lib.hid fun t y hy => hcell.out t y (by rw [List.getElem?_append_left (List.getElem?_eq_some_iff.1 hy).1]; exact hy), Lib.hid fun y hy => hsub.out y (by simp [hy]), by rw [← hpop.out, HPL2.out]; rfl⟩
        case measure => simp
      | false =>
        have hpl := HPL.out
        rw [if_neg (by rw [hw]; simp)] at hpl
        have HPL2 := Lib.hid hpl
        have hc2 := HC.out
        rw [hw] at hc2
        have HC2 := Lib.hid hc2
        clear hpl hc2 hw HC HPL
        go_wp2_with (go_at_call 75; refine HC2.out.mono ?_; rintro r w' ⟨rfl, z2, rfl⟩)
        have hq1l : q'.length + 1 ≤ Q.length := by have := hql; simp at this; omega
        obtain ⟨u, s1, happ, t2, ⟨u2, t3⟩, t4⟩ := push_app H.out hk3 (w.drewN (z + z2 + 1)) ⟨rfl, rfl, rfl, Nat.le_refl _, fun _ _ _ => rfl⟩ O (q'.length + 1) e (by omega) (by omega)
        have HAPP := Lib.hid happ
        clear happ
        go_region_law ((refine step_append_run (by rfl) _ _ _ _ (by rfl) _ _ (by rfl) (by rfl) _ _ HAPP.out ?_))
        all_goals
          refine bodyPost_end (results_none rfl _ _ _) rfl ?_
          refine ⟨rfl, ?_⟩
          rw [HPF.out, ← hpop.out, HPL2.out]
          have hd := push_done H.out hk3 (w.drewN (z + z2 + 1)) ⟨rfl, rfl, rfl, Nat.le_refl _, fun _ _ _ => rfl⟩ O (q' ++ [x]) e hcell.out (by simp; omega) (by simp; omega)
          rw [List.length_append, List.length_singleton] at hd
          exact hd

end Go.Proofs.Ytifgpjhodajccaa
