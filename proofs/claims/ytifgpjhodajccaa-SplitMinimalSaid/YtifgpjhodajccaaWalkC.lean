/-
  The walk of 'worse' of modes' windows; what a window and the plans are in memory. Condition: the numbers are small.
-/
import Derived.Test.YtifgpjhodajccaaWalkB
namespace Go.Proofs.Ytifgpjhodajccaa
open Go.RowKit

theorem unit_bnd {m : Nat} (hm : isMode m) : 1 ≤ (packF m).unit ∧ (packF m).unit ≤ 3 := by rcases hm with rfl | rfl | rfl <;> simp [packF]
theorem full_bnd {m : Nat} (hm : isMode m) : 8 ≤ (packF m).full ∧ (packF m).full ≤ 11 := by rcases hm with rfl | rfl | rfl <;> simp [packF]

def keyF (pk : Pk) (a : Nat) (p : Pl) : Int := pk.full * ((a / pk.unit : Nat) : Int) + p.bits

theorem worse_key (pk : Pk) (P : Nat → Pl) (a b : Nat) : worseF pk P a b = (decide (keyF pk b (P b) < keyF pk a (P a)) || (decide (keyF pk a (P a) = keyF pk b (P b)) && decide ((P b).segs < (P a).segs))) := rfl

theorem key_bnd {m : Nat} (hm : isMode m) {a : Nat} (ha : a ≤ 5000) {p : Pl} (h0 : 0 ≤ p.bits) (h1 : p.bits ≤ 1000000) :
    0 ≤ (packF m).full * ((a / (packF m).unit : Nat) : Int) ∧ (packF m).full * ((a / (packF m).unit : Nat) : Int) ≤ 55000 := by
  have hf := full_bnd hm
  have h1 : a / (packF m).unit ≤ 5000 := Nat.le_trans (Nat.div_le_self _ _) ha
  refine ⟨Int.mul_nonneg (by omega) (Int.natCast_nonneg _), ?_⟩
  have h2 : (packF m).full * ((a / (packF m).unit : Nat) : Int) ≤ 11 * ((a / (packF m).unit : Nat) : Int) := Int.mul_le_mul_of_nonneg_right hf.2 (Int.natCast_nonneg _)
  omega

set_option maxRecDepth 100000 in
set_option maxHeartbeats 4000000 in
theorem worse_any {m : Nat} (hm : isMode m) (gw gp n cap a b : Nat) (pa pb : Pl) (w : World) (c1 : w.cell? ⟨gw, 1, none⟩ = some (.int .i64 (packF m).unit)) (c3 : w.cell? ⟨gw, 3, none⟩ = some (.int .i64 (packF m).full))
    (a0 : w.cell? ⟨gp, a * 4, none⟩ = some (.int .i64 pa.bits)) (a1 : w.cell? ⟨gp, a * 4 + 1, none⟩ = some (.int .i64 pa.segs)) (b0 : w.cell? ⟨gp, b * 4, none⟩ = some (.int .i64 pb.bits)) (b1 : w.cell? ⟨gp, b * 4 + 1, none⟩ = some (.int .i64 pb.segs))
    (ha : a < n) (hb : b < n) (hn : n ≤ 5000) (p0 : 0 ≤ pa.bits) (p1 : pa.bits ≤ 1000000) (q0 : 0 ≤ pb.bits) (q1 : pb.bits ≤ 1000000) :
    Calls Try.prog 75 #[.pointer (some ⟨gw, 0, none⟩), .slice (some ⟨gp, 0, none⟩) n cap, .int .i64 a, .int .i64 b] w
      fun e w' => e = .returned (.bool (decide (keyF (packF m) b pb < keyF (packF m) a pa) || (decide (keyF (packF m) a pa = keyF (packF m) b pb) && decide (pb.segs < pa.segs)))) ∧ ∃ q, w' = w.drewN q := by
  have hu := unit_bnd hm
  obtain ⟨x0, x1⟩ := key_bnd hm (a := a) (by omega) p0 p1
  obtain ⟨y0, y1⟩ := key_bnd hm (a := b) (by omega) q0 q1
  have hq1 : ((packF m).unit : Int) ≠ 0 := by omega
  have hd1 : (a : Int).tdiv ((packF m).unit : Int) = ((a / (packF m).unit : Nat) : Int) := by rw [Int.tdiv_eq_ediv_of_nonneg (Int.natCast_nonneg _)]; rfl
  have hd2 : (b : Int).tdiv ((packF m).unit : Int) = ((b / (packF m).unit : Nat) : Int) := by rw [Int.tdiv_eq_ediv_of_nonneg (Int.natCast_nonneg _)]; rfl
  have hka : keyF (packF m) a pa = (packF m).full * ((a / (packF m).unit : Nat) : Int) + pa.bits := rfl
  have hkb : keyF (packF m) b pb = (packF m).full * ((b / (packF m).unit : Nat) : Int) + pb.bits := rfl
  have ga1 : a / (packF m).unit ≤ 5000 := Nat.le_trans (Nat.div_le_self _ _) (by omega)
  have gb1 : b / (packF m).unit ≤ 5000 := Nat.le_trans (Nat.div_le_self _ _) (by omega)
  generalize a / (packF m).unit = qa at *
  generalize b / (packF m).unit = qb at *
  generalize (packF m).full = fu at *
  generalize (packF m).unit = un at *
  generalize keyF (packF m) a pa = ka at *
  generalize keyF (packF m) b pb = kb at *
  obtain ⟨pab, pas, _, _⟩ := pa
  obtain ⟨pbb, pbs, _, _⟩ := pb
  simp only at *
  have HKA := Lib.hid hka
  have HKB := Lib.hid hkb
  have g0 : (0 : Int) ≤ (a : Int) := by omega
  have g1 : (a : Int) < (n : Int) := by omega
  have g2 : (0 : Int) ≤ (b : Int) := by omega
  have g3 : (b : Int) < (n : Int) := by omega
  have e1 : IntKind.i64.wrap (qa : Int) = qa := IntWalk.i64_in _ (by omega)
  have e2 : IntKind.i64.wrap (fu * (qa : Int)) = fu * qa := IntWalk.i64_in _ (by omega)
  have e3 : IntKind.i64.wrap (fu * (qa : Int) + pab) = fu * qa + pab := IntWalk.i64_in _ (by omega)
  have e4 : IntKind.i64.wrap (qb : Int) = qb := IntWalk.i64_in _ (by omega)
  have e5 : IntKind.i64.wrap (fu * (qb : Int)) = fu * qb := IntWalk.i64_in _ (by omega)
  have e6 : IntKind.i64.wrap (fu * (qb : Int) + pbb) = fu * qb + pbb := IntWalk.i64_in _ (by omega)
  have w1 : wrap64 (fu * (qa : Int) + pab) = ka := by rw [hka]; unfold wrap64; omega
  have w2 : wrap64 (fu * (qb : Int) + pbb) = kb := by rw [hkb]; unfold wrap64; omega
  have W1 := Lib.hid w1
  have W2 := Lib.hid w2
  clear e3 e6 w1 w2
  clear hka hkb hu x0 x1 y0 y1
  go_enter Try.func75, Try.ntmps75
  go_wp2_with fail
  go_quiet (fail)
  go_wp2_with fail
  go_quiet (fail)
  go_wp2_with fail
  rw [W1.out, W2.out]
  by_cases h1 : kb < ka
  · have d1 : decide (kb < ka) = true := by simpa using h1
    go_quiet (fail)
    go_wp2
    go_ret
    exact ⟨ret_bool (by first | (simp [*]; done) | (rw [Bool.eq_iff_iff]; simp; omega)), _, by first | rfl | (rw [World.drewN_drewN]; first | rfl | (rw [World.drewN_drewN]))⟩
  · have d1 : decide (kb < ka) = false := by simpa using h1
    by_cases h2 : ka = kb
    · have d2 : (ka == kb) = true := by simpa using h2
      by_cases h3 : pbs < pas
      · have d3 : decide (pbs < pas) = true := by simpa using h3
        go_quiet (fail)
        go_wp2
        go_ret
        exact ⟨ret_bool (by first | (simp [*]; done) | (rw [Bool.eq_iff_iff]; simp; omega)), _, by first | rfl | (rw [World.drewN_drewN]; first | rfl | (rw [World.drewN_drewN]))⟩
      · have d3 : decide (pbs < pas) = false := by simpa using h3
        go_quiet (fail)
        go_wp2
        go_ret
        exact ⟨ret_bool (by first | (simp [*]; done) | (rw [Bool.eq_iff_iff]; simp; omega)), _, by first | rfl | (rw [World.drewN_drewN]; first | rfl | (rw [World.drewN_drewN]))⟩
    · have d2 : (ka == kb) = false := by simpa using h2
      go_quiet (fail)
      go_wp2
      go_ret
      exact ⟨ret_bool (by first | (simp [*]; done) | (rw [Bool.eq_iff_iff]; simp; omega)), _, by first | rfl | (rw [World.drewN_drewN]; first | rfl | (rw [World.drewN_drewN]))⟩

/-- The cells of a window. -/
def winV (m cl : Nat) (v0 v1 v2 : Value) : Array Value :=
  #[.int .i64 m, .int .i64 (packF m).unit, .int .i64 (packF m).base, .int .i64 (packF m).full, .int .i64 (packF m).p0, .int .i64 (packF m).p1, .int .i64 (packF m).p2, .int .i64 (headF m cl), .int .i64 (limF m cl), v0, v1, v2]

/-- A queue: the ends from a place of the block on. -/
structure QueW (w : World) (gw ge n k : Nat) (q : List Nat) (A O : Nat) : Prop where
  slot : w.cell? ⟨gw, 9 + k, none⟩ = some (.slice (some ⟨ge, A, none⟩) q.length (n - O))
  cell : ∀ (t x : Nat), q[t]? = some x → w.cell? ⟨ge, k * n + O + t, none⟩ = some (.int .i64 x)
  adr : O < n → A = k * n + O
  fit : O + q.length ≤ n

/-- A window stands in memory: the block of its struct, the block of its ends. -/
structure WinW (w : World) (gw ge m cl n : Nat) (W : Wq) (c : Nat) : Prop where
  blk : ∃ v0 v1 v2, w.heap[gw]? = some (.cells (winV m cl v0 v1 v2) 94 (0, 0))
  ends : ∃ E, w.heap[ge]? = some (.cells E 3 (0, 0)) ∧ E.size = 3 * n
  ne : gw ≠ ge
  que : ∀ k, k < 3 → ∃ A O, O + (W.get k).length ≤ c ∧ QueW w gw ge n k (W.get k) A O

theorem cell_of_blk {w : World} {g j : Nat} {C : Array Value} {t : TypeId} (h : w.heap[g]? = some (.cells C t (0, 0))) (v : Value) (hv : C[j]? = some v) : w.cell? ⟨g, j, none⟩ = some v := by
  rw [cell_of_row _ _ _ _ _ _ h]; exact hv
theorem froz_of_blk {w : World} {g : Nat} {C : Array Value} {t : TypeId} (h : w.heap[g]? = some (.cells C t (0, 0))) (j : Nat) : w.frozen? ⟨g, j, none⟩ = false := by
  unfold World.frozen?
  simp only [h]
  simp

theorem WinW.consts {w : World} {gw ge m cl n : Nat} {W : Wq} {c : Nat} (h : WinW w gw ge m cl n W c) :
    w.cell? ⟨gw, 0, none⟩ = some (.int .i64 m) ∧ w.cell? ⟨gw, 1, none⟩ = some (.int .i64 (packF m).unit) ∧ w.cell? ⟨gw, 2, none⟩ = some (.int .i64 (packF m).base) ∧ w.cell? ⟨gw, 3, none⟩ = some (.int .i64 (packF m).full) ∧
    w.cell? ⟨gw, 4, none⟩ = some (.int .i64 (packF m).p0) ∧ w.cell? ⟨gw, 5, none⟩ = some (.int .i64 (packF m).p1) ∧ w.cell? ⟨gw, 6, none⟩ = some (.int .i64 (packF m).p2) ∧ w.cell? ⟨gw, 7, none⟩ = some (.int .i64 (headF m cl)) ∧ w.cell? ⟨gw, 8, none⟩ = some (.int .i64 (limF m cl)) := by
  obtain ⟨v0, v1, v2, hb⟩ := h.blk
  exact ⟨cell_of_blk hb _ rfl, cell_of_blk hb _ rfl, cell_of_blk hb _ rfl, cell_of_blk hb _ rfl, cell_of_blk hb _ rfl, cell_of_blk hb _ rfl, cell_of_blk hb _ rfl, cell_of_blk hb _ rfl, cell_of_blk hb _ rfl⟩

theorem WinW.lt {w : World} {gw ge m cl n : Nat} {W : Wq} {c : Nat} (h : WinW w gw ge m cl n W c) : gw < w.heap.size ∧ ge < w.heap.size := by
  obtain ⟨v0, v1, v2, hb⟩ := h.blk
  obtain ⟨E, he, _⟩ := h.ends
  exact ⟨(Array.getElem?_eq_some_iff.1 hb).1, (Array.getElem?_eq_some_iff.1 he).1⟩

theorem WinW.chg {S : List Nat} {w w' : World} {gw ge m cl n : Nat} {W : Wq} {c : Nat} (h : WinW w gw ge m cl n W c) (hc : Chg S w w') (h1 : gw ∉ S) (h2 : ge ∉ S) : WinW w' gw ge m cl n W c := by
  obtain ⟨l1, l2⟩ := h.lt
  obtain ⟨v0, v1, v2, hb⟩ := h.blk
  obtain ⟨E, he, hs⟩ := h.ends
  refine ⟨⟨v0, v1, v2, (hc.block gw l1 h1).trans hb⟩, ⟨E, (hc.block ge l2 h2).trans he, hs⟩, h.ne, fun k hk => ?_⟩
  obtain ⟨A, O, hO, hq⟩ := h.que k hk
  exact ⟨A, O, hO, (hc.cell (p := ⟨gw, 9 + k, none⟩) l1 h1).trans hq.slot, fun t x hx => (hc.cell (p := ⟨ge, _, none⟩) l2 h2).trans (hq.cell t x hx), hq.adr, hq.fit⟩

/-- The queue's slot is written. -/
theorem winV_set (m cl : Nat) (v0 v1 v2 v : Value) (k : Nat) (hk : k < 3) : ∃ u0 u1 u2, (winV m cl v0 v1 v2).setIfInBounds (9 + k) v = winV m cl u0 u1 u2 := by
  match k, hk with
  | 0, _ => exact ⟨v, v1, v2, rfl⟩
  | 1, _ => exact ⟨v0, v, v2, rfl⟩
  | 2, _ => exact ⟨v0, v1, v, rfl⟩

theorem Wq.get_set_same (W : Wq) {k : Nat} (hk : k < 3) (q : List Nat) : (W.set k q).get k = q := by
  match k, hk with
  | 0, _ => rfl
  | 1, _ => rfl
  | 2, _ => rfl
theorem Wq.get_set_other (W : Wq) {k j : Nat} (hk : k < 3) (hj : j < 3) (h : j ≠ k) (q : List Nat) : (W.set k q).get j = W.get j := by
  match k, hk, j, hj with
  | 0, _, 0, _ => exact absurd rfl h
  | 0, _, 1, _ => rfl
  | 0, _, 2, _ => rfl
  | 1, _, 0, _ => rfl
  | 1, _, 1, _ => exact absurd rfl h
  | 1, _, 2, _ => rfl
  | 2, _, 0, _ => rfl
  | 2, _, 1, _ => rfl
  | 2, _, 2, _ => exact absurd rfl h

/-- A queue is exchanged by a store into the struct: the cells of the ends are as they were. -/
theorem WinW.store {w : World} {gw ge m cl n : Nat} {W : Wq} {c c' : Nat} (h : WinW w gw ge m cl n W c) (hcc : c ≤ c') {k : Nat} (hk : k < 3) (q : List Nat) (A O : Nat) (hO : O + q.length ≤ c')
    (hcell : ∀ (t x : Nat), q[t]? = some x → w.cell? ⟨ge, k * n + O + t, none⟩ = some (.int .i64 x)) (hadr : O < n → A = k * n + O) (hfit : O + q.length ≤ n) :
    WinW (w.setCell ⟨gw, 9 + k, none⟩ (.slice (some ⟨ge, A, none⟩) q.length (n - O))) gw ge m cl n (W.set k q) c' := by
  obtain ⟨v0, v1, v2, hb⟩ := h.blk
  obtain ⟨E, he, hs⟩ := h.ends
  have hsome : ∃ u, w.cell? ⟨gw, 9 + k, none⟩ = some u := by
    obtain ⟨A', O', _, hq⟩ := h.que k hk
    exact ⟨_, hq.slot⟩
  obtain ⟨u, hu⟩ := hsome
  obtain ⟨u0, u1, u2, hset⟩ := winV_set m cl v0 v1 v2 (.slice (some ⟨ge, A, none⟩) q.length (n - O)) k hk
  refine ⟨⟨u0, u1, u2, ?_⟩, ⟨E, (Below.heap_setCell _ _ _ _ (fun e => h.ne e.symm)).trans he, hs⟩, h.ne, fun j hj => ?_⟩
  · rw [← hset]; exact heap_setCell_same w gw (9 + k) _ 94 _ hb
  · by_cases e : j = k
    · subst e
      refine ⟨A, O, by rw [Wq.get_set_same _ hk]; exact hO, ?_⟩
      rw [Wq.get_set_same _ hk]
      exact ⟨World.cell?_setCell_same _ _ _ hu, fun t x hx => (World.cell?_setCell_other _ _ _ _ (by intro h2; injection h2 with h3; exact h.ne h3)).trans (hcell t x hx), hadr, hfit⟩
    · obtain ⟨A', O', hO', hq⟩ := h.que j hj
      refine ⟨A', O', by rw [Wq.get_set_other _ hk hj e]; omega, ?_⟩
      rw [Wq.get_set_other _ hk hj e]
      exact ⟨(World.cell?_setCell_other _ _ _ _ (by intro h2; injection h2 with _ h3; omega)).trans hq.slot, fun t x hx => (World.cell?_setCell_other _ _ _ _ (by intro h2; injection h2 with h3; exact h.ne h3)).trans (hq.cell t x hx), hq.adr, hq.fit⟩

end Go.Proofs.Ytifgpjhodajccaa
