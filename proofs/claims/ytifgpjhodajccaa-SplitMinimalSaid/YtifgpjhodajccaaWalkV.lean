/-
  The walk of the law's exampleHolds. No condition.
-/
import Derived.Test.YtifgpjhodajccaaPlainE
namespace Go.Proofs.Ytifgpjhodajccaa
open Go.RowKit

/-- A message by its contract. -/
def MsgP (xs : List Int) (i t p : Int) (w : World) (e : Ending) (w' : World) : Prop :=
  ∃ sa, e = .returned (.agg #[.slice sa 1 1, .int .i64 i, .int .i64 t, .int .i64 p]) ∧ RdS w' sa 1 [(4, xs)] ∧ Below w.heap.size w w'

theorem msgAB (w : World) : Calls Try.prog 20 #[.string ⟨#[65, 66]⟩, .int .i64 0, .int .i64 2, .int .i64 1] w (MsgP [65, 66] 0 2 1 w) := message_any [65, 66] 0 2 1 w (by simp) (by simp)
theorem msgAC (w : World) : Calls Try.prog 20 #[.string ⟨#[65, 67]⟩, .int .i64 0, .int .i64 2, .int .i64 1] w (MsgP [65, 67] 0 2 1 w) := message_any [65, 67] 0 2 1 w (by simp) (by simp)
theorem msgC (w : World) : Calls Try.prog 20 #[.string ⟨#[67]⟩, .int .i64 2, .int .i64 3, .int .i64 64] w (MsgP [67] 2 3 64 w) := message_any [67] 2 3 64 w (by simp) (by simp)
theorem msgA (w : World) : Calls Try.prog 20 #[.string ⟨#[65]⟩, .int .i64 0, .int .i64 3, .int .i64 64] w (MsgP [65] 0 3 64 w) := message_any [65] 0 3 64 w (by simp) (by simp)
theorem msgB (w : World) : Calls Try.prog 20 #[.string ⟨#[66]⟩, .int .i64 1, .int .i64 3, .int .i64 64] w (MsgP [66] 1 3 64 w) := message_any [66] 1 3 64 w (by simp) (by simp)

theorem rdM_two (w : World) (s0 s1 : Option Addr) (xs ys : List Int) (i0 t0 p0 i1 t1 p1 : Int) (h0 : RdS w s0 1 [(4, xs)]) (h1 : RdS w s1 1 [(4, ys)]) :
    RdM (w.alloc (.cells #[.slice s0 1 1, .int .i64 i0, .int .i64 t0, .int .i64 p0, .slice s1 1 1, .int .i64 i1, .int .i64 t1, .int .i64 p1] 42)) (some ⟨w.heap.size, 0, none⟩) 2 [([(4, xs)], (i0, t0, p0)), ([(4, ys)], (i1, t1, p1))] := by
  have hn := World.alloc_heap_new w (.cells #[.slice s0 1 1, .int .i64 i0, .int .i64 t0, .int .i64 p0, .slice s1 1 1, .int .i64 i1, .int .i64 t1, .int .i64 p1] 42)
  have hb : Below w.heap.size w (w.alloc (.cells #[.slice s0 1 1, .int .i64 i0, .int .i64 t0, .int .i64 p0, .slice s1 1 1, .int .i64 i1, .int .i64 t1, .int .i64 p1] 42)) := (Below.refl _ _).alloc (Nat.le_refl _) _
  refine ⟨rfl, by omega, fun k hk => ⟨_, _, rfl, fun m hm => ?_⟩⟩
  rcases (show k = 0 ∨ k = 1 by omega) with rfl | rfl
  · simp at hm; subst hm
    exact ⟨⟨_, _, cell_of_blk (j := 0) hn _ rfl, h0.below hb⟩, cell_of_blk (j := 1) hn _ rfl, cell_of_blk (j := 2) hn _ rfl, cell_of_blk (j := 3) hn _ rfl⟩
  · simp at hm; subst hm
    exact ⟨⟨_, _, cell_of_blk (j := 4) hn _ rfl, h1.below hb⟩, cell_of_blk (j := 5) hn _ rfl, cell_of_blk (j := 6) hn _ rfl, cell_of_blk (j := 7) hn _ rfl⟩

theorem rdM_three (w : World) (s0 s1 s2 : Option Addr) (xs ys zs : List Int) (i0 t0 p0 i1 t1 p1 i2 t2 p2 : Int) (h0 : RdS w s0 1 [(4, xs)]) (h1 : RdS w s1 1 [(4, ys)]) (h2 : RdS w s2 1 [(4, zs)]) :
    RdM (w.alloc (.cells #[.slice s0 1 1, .int .i64 i0, .int .i64 t0, .int .i64 p0, .slice s1 1 1, .int .i64 i1, .int .i64 t1, .int .i64 p1, .slice s2 1 1, .int .i64 i2, .int .i64 t2, .int .i64 p2] 42)) (some ⟨w.heap.size, 0, none⟩) 3 [([(4, xs)], (i0, t0, p0)), ([(4, ys)], (i1, t1, p1)), ([(4, zs)], (i2, t2, p2))] := by
  have hn := World.alloc_heap_new w (.cells #[.slice s0 1 1, .int .i64 i0, .int .i64 t0, .int .i64 p0, .slice s1 1 1, .int .i64 i1, .int .i64 t1, .int .i64 p1, .slice s2 1 1, .int .i64 i2, .int .i64 t2, .int .i64 p2] 42)
  have hb : Below w.heap.size w (w.alloc (.cells #[.slice s0 1 1, .int .i64 i0, .int .i64 t0, .int .i64 p0, .slice s1 1 1, .int .i64 i1, .int .i64 t1, .int .i64 p1, .slice s2 1 1, .int .i64 i2, .int .i64 t2, .int .i64 p2] 42)) := (Below.refl _ _).alloc (Nat.le_refl _) _
  refine ⟨rfl, by omega, fun k hk => ⟨_, _, rfl, fun m hm => ?_⟩⟩
  rcases (show k = 0 ∨ k = 1 ∨ k = 2 by omega) with rfl | rfl | rfl
  · simp at hm; subst hm
    exact ⟨⟨_, _, cell_of_blk (j := 0) hn _ rfl, h0.below hb⟩, cell_of_blk (j := 1) hn _ rfl, cell_of_blk (j := 2) hn _ rfl, cell_of_blk (j := 3) hn _ rfl⟩
  · simp at hm; subst hm
    exact ⟨⟨_, _, cell_of_blk (j := 4) hn _ rfl, h1.below hb⟩, cell_of_blk (j := 5) hn _ rfl, cell_of_blk (j := 6) hn _ rfl, cell_of_blk (j := 7) hn _ rfl⟩
  · simp at hm; subst hm
    exact ⟨⟨_, _, cell_of_blk (j := 8) hn _ rfl, h2.below hb⟩, cell_of_blk (j := 9) hn _ rfl, cell_of_blk (j := 10) hn _ rfl, cell_of_blk (j := 11) hn _ rfl⟩

theorem rd_new (w : World) (e n : Nat) (xs : List Value) (hn : xs.length = n) (hm : n ≤ 1000000) : Rd (w.alloc (.cells xs.toArray e)) (some ⟨w.heap.size, 0, none⟩) n xs := by
  refine ⟨hn, by omega, fun k hk => ⟨_, _, rfl, ?_⟩⟩
  rw [World.cell?_alloc_at _ _ _ _ rfl]
  simp [show k < xs.length by omega]

theorem RetU.open {xs : List Int} {c : Int} {w w' : World} {e : Ending} (h : RetU xs c w e w') : ∃ a cap, e = .returned (.tuple #[.slice a xs.length cap, .int .i64 c]) ∧ RdU w' a xs.length xs ∧ Below w.heap.size w w' := by
  obtain ⟨v, rfl, hown, hb⟩ := h
  obtain ⟨a, cap, rfl, hrd⟩ := own_rd hown
  exact ⟨a, cap, rfl, hrd, hb⟩

set_option maxRecDepth 100000 in
set_option maxHeartbeats 4000000 in
theorem example_any (w : World) : Calls Try.prog 10 #[] w fun e w' => e = .returned (.bool true) ∧ Below w.heap.size w w' := by
  obtain ⟨W, c, hcv, hrd, hb, hs, hc1, hc2⟩ := conv_str w digs (by decide +kernel) (by decide +kernel)
  rw [← digs_str] at hcv
  have hdl : digs.length = 100 := by decide +kernel
  rw [hdl] at hcv hrd hc1
  have HC := Lib.hid (cuts_any _ _ c 1 1 digs W hrd (by decide +kernel) hc1 hc2)
  rw [ex_cuts] at HC
  clear hrd hdl
  go_enter Try.func10, Try.ntmps10
  go_wp2_with fail
  refine HC.out.mono ?_
  rintro e w1 hret
  obtain ⟨a1, cap1, rfl, r1, b1⟩ := hret.open
  replace b1 := below_tr hb (by omega) b1
  have R1 := Lib.hid r1
  clear hret r1 HC hb hs hc1 hc2 hcv
  go_wp2_with fail
  refine (msgAB _).mono ?_
  rintro e w2 ⟨s0, rfl, r2, d2⟩
  have R2 := Lib.hid r2
  clear r2
  go_wp2_with fail
  refine (msgAC _).mono ?_
  rintro e w3 ⟨s1, rfl, r3, d3⟩
  have J1 := Lib.hid (join_any _ 2 2 _ _ (rdM_two w3 s0 s1 _ _ 0 2 1 0 2 1 (R2.out.below d3) r3) (by omega) (by unfold ShortM; decide +kernel))
  rw [ex_join1] at J1
  replace d3 := below_tr d2 d2.size d3
  replace d3 := d3.alloc d3.size (.cells #[.slice s0 1 1, .int .i64 0, .int .i64 2, .int .i64 1, .slice s1 1 1, .int .i64 0, .int .i64 2, .int .i64 1] 42)
  clear r3 R2 d2
  go_wp2_with fail
  refine J1.out.mono ?_
  rintro e w4 hret
  obtain ⟨a4, cap4, rfl, _, d4⟩ := hret.open
  replace d4 := below_tr d3 d3.size d4
  clear hret J1 d3
  go_wp2_with fail
  refine (msgC _).mono ?_
  rintro e w5 ⟨s2, rfl, r5, d5⟩
  replace d5 := below_tr d4 d4.size d5
  have R5 := Lib.hid r5
  clear r5 d4
  go_wp2_with fail
  refine (msgA _).mono ?_
  rintro e w6 ⟨s3, rfl, r6, d6⟩
  have hrm := rdM_two w6 s2 s3 _ _ 2 3 64 0 3 64 (R5.out.below d6) r6
  have J2 := Lib.hid (join_any _ 2 2 _ _ hrm (by omega) (by unfold ShortM; decide +kernel))
  rw [ex_join2] at J2
  have RM := Lib.hid hrm
  replace d6 := below_tr d5 d5.size d6
  replace d6 := d6.alloc d6.size (.cells #[.slice s2 1 1, .int .i64 2, .int .i64 3, .int .i64 64, .slice s3 1 1, .int .i64 0, .int .i64 3, .int .i64 64] 42)
  clear r6 R5 d5 hrm
  go_wp2_with fail
  refine J2.out.mono ?_
  rintro e w7 hret
  obtain ⟨a7, cap7, rfl, _, d7⟩ := hret.open
  have M2 := Lib.hid (missing_any _ 2 2 _ _ (RM.out.below d7) (by omega) (by unfold ShortM; decide +kernel))
  rw [ex_miss] at M2
  replace d7 := below_tr d6 d6.size d7
  clear hret J2 d6 RM
  go_wp2_with fail
  refine M2.out.mono ?_
  rintro e w8 hret
  obtain ⟨a8, cap8, rfl, r8, d8⟩ := hret.open
  replace d8 := below_tr d7 d7.size d8
  have R8 := Lib.hid r8
  clear hret M2 d7 r8
  go_wp2_with fail
  refine (msgC _).mono ?_
  rintro e w9 ⟨s4, rfl, r9, f9⟩
  have R9 := Lib.hid r9
  clear r9
  go_wp2_with fail
  refine (msgA _).mono ?_
  rintro e w10 ⟨s5, rfl, r10, f10⟩
  have R9' := Lib.hid (R9.out.below f10)
  have R10 := Lib.hid r10
  replace f10 := below_tr f9 f9.size f10
  clear r10 R9 f9
  go_wp2_with fail
  refine (msgB _).mono ?_
  rintro e w11 ⟨s6, rfl, r11, f11⟩
  have J3 := Lib.hid (join_any _ 3 3 _ _ (rdM_three w11 s4 s5 s6 _ _ _ 2 3 64 0 3 64 1 3 64 (R9'.out.below f11) (R10.out.below f11) r11) (by omega) (by unfold ShortM; decide +kernel))
  rw [ex_join3] at J3
  replace f11 := below_tr f10 f10.size f11
  replace f11 := f11.alloc f11.size (.cells #[.slice s4 1 1, .int .i64 2, .int .i64 3, .int .i64 64, .slice s5 1 1, .int .i64 0, .int .i64 3, .int .i64 64, .slice s6 1 1, .int .i64 1, .int .i64 3, .int .i64 64] 42)
  clear r11 R9' R10 f10
  go_wp2_with fail
  refine J3.out.mono ?_
  rintro e w12 hret
  obtain ⟨a12, cap12, rfl, r12, f12⟩ := hret.open
  replace f12 := below_tr f11 f11.size f12
  have hR1 := (R1.out.below d8).below f12
  have hR8 := R8.out.below f12
  have hB : Below w.heap.size w w12 := below_tr (below_tr b1 b1.size d8) (below_tr b1 b1.size d8).size f12
  have R1x := Lib.hid hR1
  have R8x := Lib.hid hR8
  have R12 := Lib.hid r12
  clear hret J3 f11 R1 R8 b1 d8 f12 hR1 hR8 r12
  have hn1 := rd_new w12 3 3 ([35, 35, 30].map (Value.int .i64)) rfl (by omega)
  have hb1 : Below w12.heap.size w12 (w12.alloc (.cells #[.int .i64 35, .int .i64 35, .int .i64 30] 3)) := (Below.refl _ _).alloc (Nat.le_refl _) _
  have S1 := Lib.hid (same_any a1 _ 3 cap1 3 3 [35, 35, 30] [35, 35, 30] _ (R1x.out.below hb1) hn1)
  rw [show decide (([35, 35, 30] : List Int) = [35, 35, 30]) = true from by decide] at S1
  clear hn1 R1x
  go_wp2_with fail
  refine S1.out.mono ?_
  rintro e w13 ⟨rfl, g13⟩
  replace g13 := below_tr hb1 hb1.size g13
  have hn2 := rd_new w13 3 1 ([1].map (Value.int .i64)) rfl (by omega)
  have hb2 : Below w12.heap.size w12 (w13.alloc (.cells #[.int .i64 1] 3)) := g13.alloc g13.size _
  have S2 := Lib.hid (same_any a8 _ 1 cap8 1 1 [1] [1] _ (R8x.out.below hb2) hn2)
  rw [show decide (([1] : List Int) = [1]) = true from by decide] at S2
  clear hn2 R8x g13 S1 hb1
  go_wp2_with fail
  refine S2.out.mono ?_
  rintro e w14 ⟨rfl, g14⟩
  replace g14 := below_tr hb2 hb2.size g14
  have cv : (convert 22 9 (.slice a12 3 cap12)).run Try.prog w14 = .ok (.string (strOfNums [65, 66, 67])) w14 := conv_any cap12 (R12.out.below g14)
  have hn3 := rd_new w14 5 3 ([1, 2, 4].map (Value.int .u8)) rfl (by omega)
  have P3 := Lib.hid (parity_any _ 3 3 [1, 2, 4] _ hn3 (by simp) (by omega))
  rw [ex_par] at P3
  have heq : (strOfNums [65, 66, 67]).toList = [65, 66, 67] := by decide +kernel
  replace hB := below_tr hB hB.size g14
  clear hn3 R12 hb2 S2 g14
  go_wp2_with fail
  refine P3.out.mono ?_
  rintro e w15 ⟨rfl, rfl⟩
  go_wp2_with fail
  go_ret
  exact ⟨rfl, hB.alloc hB.size _⟩

end Go.Proofs.Ytifgpjhodajccaa
