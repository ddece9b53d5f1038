/-
  The walks of the reference's Structure and Capacity. Condition: version and level are right.
-/
import Derived.Test.YtifgpjhodajccaaRefD
import Derived.Test.YtifgpjhodajccaaWalkJ
import Derived.IntWalk
import Derived.StillTailTactics
namespace Go.Proofs.Ytifgpjhodajccaa
open Go.RowKit

theorem bcell {W w1 : World} (hb : Below W.heap.size W w1) : (∀ b o, b < W.heap.size → w1.cell? ⟨b, o, none⟩ = W.cell? ⟨b, o, none⟩) ∧ (∀ b o, b < W.heap.size → w1.frozen? ⟨b, o, none⟩ = W.frozen? ⟨b, o, none⟩) :=
  ⟨fun b o h => hb.cell (p := ⟨b, o, none⟩) h, fun b o h => hb.frozen (p := ⟨b, o, none⟩) h⟩

/-- A new slice of forty integers: that at p is x. -/
def RetC (x : Int) (p : Nat) (w : World) (e : Ending) (w' : World) : Prop := ∃ b o, e = .returned (.slice (some ⟨b, o, none⟩) 40 40) ∧ w'.cell? ⟨b, o + p, none⟩ = some (.int .i64 x) ∧ b < w'.heap.size ∧ Below w.heap.size w w'

theorem RetT.at {xs : List Int} {w w' : World} {e : Ending} (h : RetT xs w e w') (p : Nat) (hp : p < 40) : RetC (xs.getD p 0) p w e w' := by
  obtain ⟨a, rfl, hr, hb⟩ := h
  obtain ⟨b, o, z, rfl, hc, hd⟩ := hr.at p hp
  have e1 : xs.getD p 0 = z := by rw [List.getD_eq_getElem?_getD, getElem?_of_drop hd]; rfl
  exact ⟨b, o, rfl, by rw [e1]; exact hc, lt_of_cell hc, hb⟩

theorem tab_bnd1 : ∀ v : Nat, v < 40 → ∀ l : Nat, l < 5 → 1 ≤ l → 0 < (blkT l).getD v 0 ∧ (blkT l).getD v 0 ≤ 100 ∧ 0 ≤ (chkT l).getD v 0 ∧ (chkT l).getD v 0 ≤ 40 := by decide +kernel
theorem tab_bnd2 : ∀ v : Nat, v < 40 → ∀ l : Nat, l < 5 → 1 ≤ l → 0 ≤ wrdT.getD v 0 ∧ wrdT.getD v 0 ≤ 4000 ∧ 0 ≤ (blkT l).getD v 0 * (chkT l).getD v 0 ∧ (blkT l).getD v 0 * (chkT l).getD v 0 ≤ wrdT.getD v 0 := by decide +kernel

theorem hi79 (s i t p : Value) : (Try.prog.info? 79).map (·.size) = some (#[s, i, t, p]).size := by kernel_rfl

theorem res46 (tmps : Array Value) (w : World) (g : Nat) (s i t p er : Value) (h4 : tmps.getD 4 undef = .pointer (some ⟨g, 0, none⟩)) (h5 : tmps.getD 5 undef = er) (hg : w.heap[g]? = some (.cells #[s, i, t, p] 79 (0, 0))) :
    (results Try.f46 tmps).run Try.prog w = .ok (.tuple #[.agg #[s, i, t, p], er]) w := by
  have hl := run_loadVar_row (P := Try.prog) w g 79 79 #[s, i, t, p] (0, 0) _ hg Try.underlying79 rfl (by kernel_rfl)
  have h4' : tmps[4]?.getD undef = .pointer (some ⟨g, 0, none⟩) := by simpa using h4
  have h5' : tmps[5]?.getD undef = er := by simpa using h5
  simp [results, Try.results46, h4', h5', asAddr, hl]

/-- What Structure computes. -/
def StrP (b k n : Int) (w : World) (e : Ending) (w' : World) : Prop := e = .returned (.tuple #[.agg #[.int .i64 (b - n % b), .int .i64 (n % b), .int .i64 (n / b), .int .i64 k], .int .i64 0]) ∧ Below w.heap.size w w'

set_option maxRecDepth 100000 in
set_option maxHeartbeats 8000000 in
theorem struct_any (p l : Nat) (w : World) (hp : p < 40) (l1 : 1 ≤ l) (l2 : l ≤ 4) :
    Calls Try.prog 46 #[.int .i64 ((p : Int) + 1), .int .i64 l] w (StrP ((blkT l).getD p 0) ((chkT l).getD p 0) (wrdT.getD p 0 - (blkT l).getD p 0 * (chkT l).getD p 0) w) := by
  have HR := Lib.hid (fun W => right_any (p + 1) l W (by omega) (by omega) l1 l2)
  have HB := Lib.hid (fun W => (blocks_any l W l1 l2).mono fun e w' h => h.at p hp)
  have HC := Lib.hid (fun W => (checks_any l W l1 l2).mono fun e w' h => h.at p hp)
  have HW := Lib.hid (fun W => (words_any W).mono fun e w' h => h.at p hp)
  obtain ⟨t1, t2, t3, t4⟩ := tab_bnd1 p hp l (by omega) l1
  obtain ⟨t5, t6, t7, t8⟩ := tab_bnd2 p hp l (by omega) l1
  generalize (blkT l).getD p 0 = b at *
  generalize (chkT l).getD p 0 = k at *
  generalize wrdT.getD p 0 = t at *
  simp only [Int.natCast_add, Int.natCast_one] at HR
  have q0 : (0 : Int) ≤ (p : Int) := by omega
  have q1 : (p : Int) < 40 := by omega
  have q2 : IntKind.i64.wrap ((p : Int) + 1 - 1) = (p : Int) := by rw [show (p : Int) + 1 - 1 = p by omega]; exact IntWalk.i64_in _ (by omega)
  have q3 : IntKind.i64.wrap (p : Int) = (p : Int) := IntWalk.i64_in _ (by omega)
  go_enter Try.func46, Try.ntmps46
  go_wp2_with (go_at_call 68; refine (HR.out _).mono ?_; rintro e w' ⟨rfl, rfl⟩)
  go_region_with (first
    | (go_at_call 69; refine (HB.out _).mono ?_; rintro e w5 ⟨b5, o5, rfl, hc5, hl5, hb5⟩; obtain ⟨k5, f5⟩ := bcell hb5)
    | (go_at_call 70; refine (HC.out _).mono ?_; rintro e w6 ⟨b6, o6, rfl, hc6, hl6, hb6⟩; obtain ⟨k6, f6⟩ := bcell hb6))
  all_goals
    go_wp2_with fail
    refine (HW.out _).mono ?_
    rintro e w7 ⟨b7, o7, rfl, hc7, hl7, hb7⟩
    clear k5 f5 k6 f6
    have hB0 : Below w.heap.size w ((w.alloc (.cells #[.int .i64 0, .int .i64 0, .int .i64 0, .int .i64 0] 79)).drew) := ((Below.refl _ _).alloc (Nat.le_refl _) _).drew
    have hn0 : ((w.alloc (.cells #[.int .i64 0, .int .i64 0, .int .i64 0, .int .i64 0] 79)).drew).heap[w.heap.size]? = some (.cells #[.int .i64 0, .int .i64 0, .int .i64 0, .int .i64 0] 79 (0, 0)) := World.alloc_heap_new w _
    generalize (w.alloc (.cells #[.int .i64 0, .int .i64 0, .int .i64 0, .int .i64 0] 79)).drew = W0 at *
    have hlt0 : w.heap.size < W0.heap.size := (Array.getElem?_eq_some_iff.1 hn0).1
    have hblk : w7.heap[w.heap.size]? = some (.cells #[.int .i64 0, .int .i64 0, .int .i64 0, .int .i64 0] 79 (0, 0)) := by
      first
      | exact ((hb7.block _ (by have := hb5.size; have := hb6.size; omega)).trans ((hb6.block _ (by have := hb5.size; omega)).trans (hb5.block _ hlt0))).trans hn0
      | exact ((hb7.block _ (by have := hb5.size; have := hb6.size; omega)).trans ((hb5.block _ (by have := hb6.size; omega)).trans (hb6.block _ hlt0))).trans hn0
    have hB7 : Below w.heap.size w w7 := by
      first
      | exact below_tr (below_tr (below_tr hB0 hB0.size hb5) (below_tr hB0 hB0.size hb5).size hb6) (below_tr (below_tr hB0 hB0.size hb5) (below_tr hB0 hB0.size hb5).size hb6).size hb7
      | exact below_tr (below_tr (below_tr hB0 hB0.size hb6) (below_tr hB0 hB0.size hb6).size hb5) (below_tr (below_tr hB0 hB0.size hb6) (below_tr hB0 hB0.size hb6).size hb5).size hb7
    clear hn0 hlt0 hb5 hb6 hb7
    go_wp2_with fail
    obtain ⟨n, hn⟩ : ∃ n, t - b * k = n := ⟨_, rfl⟩
    rw [hn]
    have n0 : 0 ≤ n := by omega
    have n1 : n ≤ 4000 := by omega
    have m1 : 0 ≤ n % b := Int.emod_nonneg _ (by omega)
    have m2 : n % b < b := Int.emod_lt_of_pos _ t1
    have m3 : 0 ≤ n / b := Int.ediv_nonneg n0 (by omega)
    have m4 : n / b ≤ n := Int.ediv_le_self _ n0
    have e1 : n.tmod b = n % b := Int.tmod_eq_emod_of_nonneg n0
    have e2 : n.tdiv b = n / b := Int.tdiv_eq_ediv_of_nonneg n0
    have e3 : IntKind.i64.wrap (n % b) = n % b := IntWalk.i64_in _ (by omega)
    have e4 : IntKind.i64.wrap (n / b) = n / b := IntWalk.i64_in _ (by omega)
    have e5 : IntKind.i64.wrap (b - n % b) = b - n % b := IntWalk.i64_in _ (by omega)
    have z1 : (b == 0) = false := by simp; omega
    have z2 : ¬ b = 0 := by omega
    have HN := Lib.hid hn
    clear hn t7 t8
    go_still_tail 13, (by kernel_rfl)
    change wpList _ _ _ _ _ w7.drew
    have hblk2 : w7.drew.heap[w.heap.size]? = some (.cells #[.int .i64 0, .int .i64 0, .int .i64 0, .int .i64 0] 79 (0, 0)) := hblk
    refine wpList_store_row rfl 79 (.tmp 4) (.tmp 50) rfl w.heap.size _ rfl rfl 79 _ hblk2 (hi79 _ _ _ _) rfl (by simp [Value.oneCell']) ?_
    go_wp2_with fail
    refine bodyPost_ret (res46 _ _ w.heap.size (.int .i64 (b - n % b)) (.int .i64 (n % b)) (.int .i64 (n / b)) (.int .i64 k) (.int .i64 0) rfl rfl (setRow_heap _ _ _ _ _ _ hblk2)) rfl ?_
    exact ⟨by rw [HN.out], below_setRow hB7.drew (Nat.le_refl _) _⟩

/-- What Capacity computes. -/
theorem refCap_any (v l : Nat) (w : World) (h1 : 1 ≤ v) (h2 : v ≤ 40) (l1 : 1 ≤ l) (l2 : l ≤ 4) :
    Calls Try.prog 39 #[.int .i64 v, .int .i64 l] w fun e w' => e = .returned (.tuple #[.int .i64 (capF v l), .int .i64 0]) ∧ Below w.heap.size w w' := by
  obtain ⟨p, rfl⟩ : ∃ p, v = p + 1 := ⟨v - 1, by omega⟩
  have hc := cap_ref (p + 1) (by omega) l (by omega) h1 l1
  have hs := fun W => struct_any p l W (by omega) l1 l2
  rw [show p + 1 - 1 = p by omega] at hc
  obtain ⟨t1, t2, t3, t4⟩ := tab_bnd1 p (by omega) l (by omega) l1
  obtain ⟨t5, t6, t7, t8⟩ := tab_bnd2 p (by omega) l (by omega) l1
  generalize (blkT l).getD p 0 = b at *
  generalize (chkT l).getD p 0 = k at *
  generalize wrdT.getD p 0 = t at *
  obtain ⟨n, hn⟩ : ∃ n, t - b * k = n := ⟨_, rfl⟩
  rw [hn] at hc
  simp only [hn] at hs
  have n0 : 0 ≤ n := by omega
  have n1 : n ≤ 4000 := by omega
  have m1 : 0 ≤ n % b := Int.emod_nonneg _ (by omega)
  have m2 : n % b < b := Int.emod_lt_of_pos _ t1
  have m3 : 0 ≤ n / b := Int.ediv_nonneg n0 (by omega)
  have m4 : n / b ≤ n := Int.ediv_le_self _ n0
  have m5 : b * (n / b) ≤ n := Int.mul_ediv_self_le (by omega)
  have m6 : 0 ≤ b * (n / b) := Int.mul_nonneg (by omega) m3
  have HC := Lib.hid hc.2
  have HS := Lib.hid hs
  clear hs hc hn t7 t8
  have hbr : b - n % b + n % b = b := by omega
  have m7 : 0 ≤ b * (n / b) + n % b := by omega
  simp only [Int.natCast_add, Int.natCast_one]
  go_enter Try.func39, Try.ntmps39
  go_wp2_with fail
  refine (HS.out _).mono ?_
  rintro e w5 ⟨rfl, hb5⟩
  go_wp2_with fail
  go_ret2
  refine ⟨?_, hb5.alloc hb5.size _⟩
  rw [← HC.out, hbr]
  rfl

end Go.Proofs.Ytifgpjhodajccaa
