/-
  The walks of small functions of package modes: known, CountBits, packed, size, better, Class. No condition.
-/
import Derived.Test.YtifgpjhodajccaaChecked
import Derived.Test.YtifgpjhodajccaaPlainA
import Derived.Test.YtifgpjhodajccaaMem
namespace Go.Proofs.Ytifgpjhodajccaa
open Go.RowKit

theorem below_drewN {B : Nat} {a w : World} (h : Below B a w) (m : Nat) : Below B a (w.drewN m) := ⟨h.os, h.tape, h.output, h.size, h.block⟩
theorem below_tr {B : Nat} {w w1 w2 : World} (h : Below B w w1) (hs : B ≤ w1.heap.size) (h2 : Below w1.heap.size w1 w2) : Below B w w2 := h.trans (h2.mono hs)

set_option maxRecDepth 100000 in
set_option maxHeartbeats 1000000 in
theorem countBits_any (m cl : Nat) (w : World) (hm : isMode m) (hc : cl < 3) : Calls Try.prog 72 #[.int .i64 m, .int .i64 cl] w fun e w' => e = .returned (.tuple #[.int .i64 (countF m cl : Int), .int .i64 0]) ∧ w = w' := by
  have i0 : ∀ x y z W, (Instr.index 89 (.agg #[x, y, z]) (.int .i64 0)).run Try.prog W = .ok x W := fun _ _ _ _ => by kernel_rfl
  have i1 : ∀ x y z W, (Instr.index 89 (.agg #[x, y, z]) (.int .i64 1)).run Try.prog W = .ok y W := fun _ _ _ _ => by kernel_rfl
  have i2 : ∀ x y z W, (Instr.index 89 (.agg #[x, y, z]) (.int .i64 2)).run Try.prog W = .ok z W := fun _ _ _ _ => by kernel_rfl
  rcases hm with rfl | rfl | rfl <;> (rcases (show cl = 0 ∨ cl = 1 ∨ cl = 2 by omega) with rfl | rfl | rfl)
  all_goals
    go_enter Try.func72, Try.ntmps72
    go_wp2
    go_ret2
    exact ⟨rfl, rfl⟩

def pkV (m : Nat) : Array Value := #[.int .i64 (packF m).unit, .int .i64 (packF m).base, .int .i64 (packF m).full, .int .i64 (packF m).p0, .int .i64 (packF m).p1, .int .i64 (packF m).p2]

set_option maxHeartbeats 1000000 in
theorem packed_any (m : Nat) (w : World) (hm : isMode m) : Calls Try.prog 73 #[.int .i64 m] w fun e w' => e = .returned (.agg (pkV m)) ∧ Below w.heap.size w w' := by
  rcases hm with rfl | rfl | rfl
  · go_enter Try.func73, Try.ntmps73
    go_wp2
    exact bodyPost_ret (v := .agg #[.int .i64 3, .int .i64 10, .int .i64 10, .int .i64 0, .int .i64 4, .int .i64 7]) (by simp [results, Try.results73, go_sem, *]) rfl ⟨rfl, (Below.refl _ w).alloc (Nat.le_refl _) _⟩
  · go_enter Try.func73, Try.ntmps73
    go_wp2
    exact bodyPost_ret (v := .agg #[.int .i64 2, .int .i64 45, .int .i64 11, .int .i64 0, .int .i64 6, .int .i64 0]) (by simp [results, Try.results73, go_sem, *]) rfl ⟨rfl, (Below.refl _ w).alloc (Nat.le_refl _) _⟩
  · go_enter Try.func73, Try.ntmps73
    go_wp2
    exact bodyPost_ret (v := .agg #[.int .i64 1, .int .i64 256, .int .i64 8, .int .i64 0, .int .i64 0, .int .i64 0]) (by simp [results, Try.results73, go_sem, *]) rfl ⟨rfl, (Below.refl _ w).alloc (Nat.le_refl _) _⟩

theorem part_at {w : World} {g : Nat} {m : Nat} (h : w.heap[g]? = some (.cells (pkV m) 91 (0, 0))) (r : Nat) (hr : r < 3) : w.cell? ⟨g, 3 + r, none⟩ = some (.int .i64 (partF (packF m) r)) := by
  rw [cell_of_row _ _ _ _ _ _ h]
  match r, hr with
  | 0, _ => rfl
  | 1, _ => rfl
  | 2, _ => rfl

set_option maxRecDepth 100000 in
set_option maxHeartbeats 1000000 in
theorem size_any (m n : Nat) (w : World) (hm : isMode m) (hn : n ≤ 1000000) : Calls Try.prog 76 #[.agg (pkV m), .int .i64 n] w fun e w' => e = .returned (.int .i64 (sizeF (packF m) n)) ∧ ∃ q, w' = (w.alloc (.cells (pkV m) 91)).drewN q := by
  have hh : (w.alloc (.cells (pkV m) 91)).heap[w.heap.size]? = some (.cells (pkV m) 91) := by show (w.heap.push _)[w.heap.size]? = _; simp
  have hu : 1 ≤ (packF m).unit ∧ (packF m).unit ≤ 3 := by rcases hm with rfl | rfl | rfl <;> simp [packF]
  have hf : 8 ≤ (packF m).full ∧ (packF m).full ≤ 11 := by rcases hm with rfl | rfl | rfl <;> simp [packF]
  have hp : ∀ r, 0 ≤ partF (packF m) r ∧ partF (packF m) r ≤ 7 := by intro r; unfold partF; rcases hm with rfl | rfl | rfl <;> simp [packF] <;> (repeat' split) <;> omega
  have hb := size_bnd hm n
  have hr : n % (packF m).unit < 3 := by have := Nat.mod_lt n (show 0 < (packF m).unit by omega); omega
  have k0 := part_at hh _ hr
  have k1 : (w.alloc (.cells (pkV m) 91)).cell? ⟨w.heap.size, 0, none⟩ = some (.int .i64 (packF m).unit) := by rw [cell_of_row _ _ _ _ _ _ hh]; rfl
  have k2 : (w.alloc (.cells (pkV m) 91)).cell? ⟨w.heap.size, 2, none⟩ = some (.int .i64 (packF m).full) := by rw [cell_of_row _ _ _ _ _ _ hh]; rfl
  have hB : Below w.heap.size w (w.alloc (.cells (pkV m) 91)) := (Below.refl _ w).alloc (Nat.le_refl _) _
  have hsz : sizeF (packF m) n = (packF m).full * ((n / (packF m).unit : Nat) : Int) + partF (packF m) (n % (packF m).unit) := rfl
  have hpr := hp (n % (packF m).unit)
  have hx : (packF m).full * ((n / (packF m).unit : Nat) : Int) ≤ 11 * 1000000 := by
    have h1 : n / (packF m).unit ≤ 1000000 := Nat.le_trans (Nat.div_le_self _ _) hn
    have h2 : (packF m).full * ((n / (packF m).unit : Nat) : Int) ≤ 11 * ((n / (packF m).unit : Nat) : Int) := Int.mul_le_mul_of_nonneg_right hf.2 (Int.natCast_nonneg _)
    omega
  have hqn : ((n / (packF m).unit : Nat) : Int) ≤ 1000000 := by have h1 : n / (packF m).unit ≤ 1000000 := Nat.le_trans (Nat.div_le_self _ _) hn; omega
  have hx0 : 0 ≤ (packF m).full * ((n / (packF m).unit : Nat) : Int) := Int.mul_nonneg (by omega) (Int.natCast_nonneg _)
  have hq1 : ((packF m).unit : Int) ≠ 0 := by omega
  have hd1 : (n : Int).tdiv ((packF m).unit : Int) = ((n / (packF m).unit : Nat) : Int) := by rw [Int.tdiv_eq_ediv_of_nonneg (Int.natCast_nonneg _)]; rfl
  have hd2 : (n : Int).tmod ((packF m).unit : Int) = ((n % (packF m).unit : Nat) : Int) := by rw [Int.tmod_eq_emod_of_nonneg (Int.natCast_nonneg _)]; rfl
  generalize hA : (w.alloc (.cells (pkV m) 91)) = wa at *
  generalize partF (packF m) (n % (packF m).unit) = pr at *
  generalize (packF m).full = fu at *
  generalize n / (packF m).unit = qu at *
  generalize n % (packF m).unit = re at *
  generalize (packF m).unit = un at *
  have HS := Lib.hid hsz
  have HA := Lib.hid hA
  clear hsz hp hh hb hA
  go_enter Try.func76, Try.ntmps76
  go_wp2_with fail
  rw [HA.out]
  go_quiet (fail)
  go_wp2
  go_ret
  refine ⟨ret_int ?_, _, rfl⟩
  rw [HS.out]
  first
    | done
    | (have e1 : wrap64 (qu : Int) = qu := by unfold wrap64; omega
       have e2 : wrap64 (fu * (qu : Int)) = fu * qu := by unfold wrap64; omega
       rw [e1, e2]
       unfold wrap64; omega)

set_option maxRecDepth 100000 in
set_option maxHeartbeats 1000000 in
theorem better_any (p q : Pl) (w : World) : Calls Try.prog 77 #[.agg #[.int .i64 p.bits, .int .i64 p.segs, .int .i64 p.size, .int .i64 p.mode], .agg #[.int .i64 q.bits, .int .i64 q.segs, .int .i64 q.size, .int .i64 q.mode]] w
    fun e w' => e = .returned (.bool (betterF p q)) ∧ Below w.heap.size w w' := by
  have HB : Hid (betterF p q = if p.bits ≠ q.bits then decide (p.bits < q.bits) else if p.segs ≠ q.segs then decide (p.segs < q.segs) else if p.size ≠ q.size then decide (q.size < p.size) else decide (p.mode < q.mode)) := rfl
  obtain ⟨b0, b1, b2, b3⟩ := p
  obtain ⟨c0, c1, c2, c3⟩ := q
  simp only at HB ⊢
  go_enter Try.func77, Try.ntmps77
  go_wp2
  all_goals
    go_ret
    refine ⟨ret_bool ?_, ((Below.refl _ w).alloc (Nat.le_refl _) _).alloc (by simp) _⟩
    rw [HB.out]
    simp_all

set_option maxRecDepth 100000 in
set_option maxHeartbeats 1000000 in
theorem class_any (v : Nat) (w : World) (h1 : 1 ≤ v) (h2 : v ≤ 40) : Calls Try.prog 40 #[.int .i64 v] w fun e w' => e = .returned (.tuple #[.int .i64 ((if v ≤ 9 then 0 else if v ≤ 26 then 1 else 2 : Nat) : Int), .int .i64 0]) ∧ w = w' := by
  go_enter Try.func40, Try.ntmps40
  go_wp2
  all_goals
    go_ret2
    refine ⟨?_, rfl⟩
    (repeat' split) <;> first | rfl | (exfalso; omega)

end Go.Proofs.Ytifgpjhodajccaa
