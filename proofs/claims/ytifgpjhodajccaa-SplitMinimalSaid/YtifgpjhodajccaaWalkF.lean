/-
  The walk of newWindow of modes. Condition: the numbers are small.
-/
import Derived.Test.YtifgpjhodajccaaWalkE
namespace Go.Proofs.Ytifgpjhodajccaa
open Go.RowKit

set_option maxRecDepth 100000 in
set_option maxHeartbeats 8000000 in
theorem newWindow_any (m cl n : Nat) (w : World) (hm : isMode m) (hcl : cl < 3) (hn : n ≤ 4900) :
    Calls Try.prog 47 #[.int .i64 m, .int .i64 cl, .int .i64 n] w fun e w' => ∃ gw ge, e = .returned (.pointer (some ⟨gw, 0, none⟩)) ∧ WinW w' gw ge m cl n Wq.nil 0 ∧ w.heap.size ≤ gw ∧ w.heap.size ≤ ge ∧ Below w.heap.size w w' := by
  have HCB := Lib.hid (fun W => countBits_any m cl W hm hcl)
  go_enter Try.func47, Try.ntmps47
  go_wp2_with fail
  refine (HCB.out _).mono ?_
  rintro e w' ⟨rfl, rfl⟩
  go_upto_region 2 with fail
  go_cut [9] (fun p wx => ∃ gw, p = .pointer (some ⟨gw, 0, none⟩) ∧ wx.heap[gw]? = some (.cells (winV m cl (.slice none 0 0) (.slice none 0 0) (.slice none 0 0)) 94 (0, 0)) ∧ w.heap.size ≤ gw ∧ Below w.heap.size w wx)
  case first =>
    have hc1 : countF m cl ≤ 16 := by unfold countF; (repeat' split) <;> omega
    rcases hm with rfl | rfl | rfl <;> rcases (show cl = 0 ∨ cl = 1 ∨ cl = 2 by omega) with rfl | rfl | rfl
    · have HPK : Hid (∀ W, Calls Try.prog 73 #[.int .i64 ((1 : Nat) : Int)] W fun e w' => e = .returned (.agg #[.int .i64 3, .int .i64 10, .int .i64 10, .int .i64 0, .int .i64 4, .int .i64 7]) ∧ Below W.heap.size W w') := Lib.hid fun W => packed_any 1 W (.inl rfl)
      have hcf : ((countF 1 0 : Nat) : Int) = 10 := rfl
      rw [hcf]
      go_region_with (go_at_call 73; refine (HPK.out _).mono ?_; rintro e w5 ⟨rfl, hb5⟩)
      all_goals
        go_wp2_with fail
        go_meet
        have hs5 := hb5.size
        exact ⟨w5.heap.size, rfl, World.alloc_heap_new w5 _, hs5, (show Below w.heap.size w w5 from ⟨hb5.os, hb5.tape, hb5.output, hb5.size, hb5.block⟩).alloc hs5 _⟩
    · have HPK : Hid (∀ W, Calls Try.prog 73 #[.int .i64 ((1 : Nat) : Int)] W fun e w' => e = .returned (.agg #[.int .i64 3, .int .i64 10, .int .i64 10, .int .i64 0, .int .i64 4, .int .i64 7]) ∧ Below W.heap.size W w') := Lib.hid fun W => packed_any 1 W (.inl rfl)
      have hcf : ((countF 1 1 : Nat) : Int) = 12 := rfl
      rw [hcf]
      go_region_with (go_at_call 73; refine (HPK.out _).mono ?_; rintro e w5 ⟨rfl, hb5⟩)
      all_goals
        go_wp2_with fail
        go_meet
        have hs5 := hb5.size
        exact ⟨w5.heap.size, rfl, World.alloc_heap_new w5 _, hs5, (show Below w.heap.size w w5 from ⟨hb5.os, hb5.tape, hb5.output, hb5.size, hb5.block⟩).alloc hs5 _⟩
    · have HPK : Hid (∀ W, Calls Try.prog 73 #[.int .i64 ((1 : Nat) : Int)] W fun e w' => e = .returned (.agg #[.int .i64 3, .int .i64 10, .int .i64 10, .int .i64 0, .int .i64 4, .int .i64 7]) ∧ Below W.heap.size W w') := Lib.hid fun W => packed_any 1 W (.inl rfl)
      have hcf : ((countF 1 2 : Nat) : Int) = 14 := rfl
      rw [hcf]
      go_region_with (go_at_call 73; refine (HPK.out _).mono ?_; rintro e w5 ⟨rfl, hb5⟩)
      all_goals
        go_wp2_with fail
        go_meet
        have hs5 := hb5.size
        exact ⟨w5.heap.size, rfl, World.alloc_heap_new w5 _, hs5, (show Below w.heap.size w w5 from ⟨hb5.os, hb5.tape, hb5.output, hb5.size, hb5.block⟩).alloc hs5 _⟩
    · have HPK : Hid (∀ W, Calls Try.prog 73 #[.int .i64 ((2 : Nat) : Int)] W fun e w' => e = .returned (.agg #[.int .i64 2, .int .i64 45, .int .i64 11, .int .i64 0, .int .i64 6, .int .i64 0]) ∧ Below W.heap.size W w') := Lib.hid fun W => packed_any 2 W (.inr (.inl rfl))
      have hcf : ((countF 2 0 : Nat) : Int) = 9 := rfl
      rw [hcf]
      go_region_with (go_at_call 73; refine (HPK.out _).mono ?_; rintro e w5 ⟨rfl, hb5⟩)
      all_goals
        go_wp2_with fail
        go_meet
        have hs5 := hb5.size
        exact ⟨w5.heap.size, rfl, World.alloc_heap_new w5 _, hs5, (show Below w.heap.size w w5 from ⟨hb5.os, hb5.tape, hb5.output, hb5.size, hb5.block⟩).alloc hs5 _⟩
    · have HPK : Hid (∀ W, Calls Try.prog 73 #[.int .i64 ((2 : Nat) : Int)] W fun e w' => e = .returned (.agg #[.int .i64 2, .int .i64 45, .int .i64 11, .int .i64 0, .int .i64 6, .int .i64 0]) ∧ Below W.heap.size W w') := Lib.hid fun W => packed_any 2 W (.inr (.inl rfl))
      have hcf : ((countF 2 1 : Nat) : Int) = 11 := rfl
      rw [hcf]
      go_region_with (go_at_call 73; refine (HPK.out _).mono ?_; rintro e w5 ⟨rfl, hb5⟩)
      all_goals
        go_wp2_with fail
        go_meet
        have hs5 := hb5.size
        exact ⟨w5.heap.size, rfl, World.alloc_heap_new w5 _, hs5, (show Below w.heap.size w w5 from ⟨hb5.os, hb5.tape, hb5.output, hb5.size, hb5.block⟩).alloc hs5 _⟩
    · have HPK : Hid (∀ W, Calls Try.prog 73 #[.int .i64 ((2 : Nat) : Int)] W fun e w' => e = .returned (.agg #[.int .i64 2, .int .i64 45, .int .i64 11, .int .i64 0, .int .i64 6, .int .i64 0]) ∧ Below W.heap.size W w') := Lib.hid fun W => packed_any 2 W (.inr (.inl rfl))
      have hcf : ((countF 2 2 : Nat) : Int) = 13 := rfl
      rw [hcf]
      go_region_with (go_at_call 73; refine (HPK.out _).mono ?_; rintro e w5 ⟨rfl, hb5⟩)
      all_goals
        go_wp2_with fail
        go_meet
        have hs5 := hb5.size
        exact ⟨w5.heap.size, rfl, World.alloc_heap_new w5 _, hs5, (show Below w.heap.size w w5 from ⟨hb5.os, hb5.tape, hb5.output, hb5.size, hb5.block⟩).alloc hs5 _⟩
    · have HPK : Hid (∀ W, Calls Try.prog 73 #[.int .i64 ((4 : Nat) : Int)] W fun e w' => e = .returned (.agg #[.int .i64 1, .int .i64 256, .int .i64 8, .int .i64 0, .int .i64 0, .int .i64 0]) ∧ Below W.heap.size W w') := Lib.hid fun W => packed_any 4 W (.inr (.inr rfl))
      have hcf : ((countF 4 0 : Nat) : Int) = 8 := rfl
      rw [hcf]
      go_region_with (go_at_call 73; refine (HPK.out _).mono ?_; rintro e w5 ⟨rfl, hb5⟩)
      all_goals
        go_wp2_with fail
        go_meet
        have hs5 := hb5.size
        exact ⟨w5.heap.size, rfl, World.alloc_heap_new w5 _, hs5, (show Below w.heap.size w w5 from ⟨hb5.os, hb5.tape, hb5.output, hb5.size, hb5.block⟩).alloc hs5 _⟩
    · have HPK : Hid (∀ W, Calls Try.prog 73 #[.int .i64 ((4 : Nat) : Int)] W fun e w' => e = .returned (.agg #[.int .i64 1, .int .i64 256, .int .i64 8, .int .i64 0, .int .i64 0, .int .i64 0]) ∧ Below W.heap.size W w') := Lib.hid fun W => packed_any 4 W (.inr (.inr rfl))
      have hcf : ((countF 4 1 : Nat) : Int) = 16 := rfl
      rw [hcf]
      go_region_with (go_at_call 73; refine (HPK.out _).mono ?_; rintro e w5 ⟨rfl, hb5⟩)
      all_goals
        go_wp2_with fail
        go_meet
        have hs5 := hb5.size
        exact ⟨w5.heap.size, rfl, World.alloc_heap_new w5 _, hs5, (show Below w.heap.size w w5 from ⟨hb5.os, hb5.tape, hb5.output, hb5.size, hb5.block⟩).alloc hs5 _⟩
    · have HPK : Hid (∀ W, Calls Try.prog 73 #[.int .i64 ((4 : Nat) : Int)] W fun e w' => e = .returned (.agg #[.int .i64 1, .int .i64 256, .int .i64 8, .int .i64 0, .int .i64 0, .int .i64 0]) ∧ Below W.heap.size W w') := Lib.hid fun W => packed_any 4 W (.inr (.inr rfl))
      have hcf : ((countF 4 2 : Nat) : Int) = 16 := rfl
      rw [hcf]
      go_region_with (go_at_call 73; refine (HPK.out _).mono ?_; rintro e w5 ⟨rfl, hb5⟩)
      all_goals
        go_wp2_with fail
        go_meet
        have hs5 := hb5.size
        exact ⟨w5.heap.size, rfl, World.alloc_heap_new w5 _, hs5, (show Below w.heap.size w w5 from ⟨hb5.os, hb5.tape, hb5.output, hb5.size, hb5.block⟩).alloc hs5 _⟩
  case rest =>
    obtain ⟨gw, rfl, hgw, hgl, hB⟩ := hcut
    obtain ⟨i3, hi3, hz3⟩ : ∃ i, Try.prog.info? 3 = some i ∧ i.zero = some (.int .i64 0) ∧ i.size = 1 ∧ i.bytes = 8 := by
      cases h : Try.prog.info? 3 with
      | none => have : (Try.prog.info? 3).isSome = true := by kernel_rfl
                rw [h] at this; cases this
      | some i =>
        have e1 : (Try.prog.info? 3).bind (·.zero) = some (.int .i64 0) := by kernel_rfl
        have e2 : (Try.prog.info? 3).map (·.size) = some 1 := by kernel_rfl
        have e3 : (Try.prog.info? 3).map (·.bytes) = some 8 := by kernel_rfl
        rw [h] at e1 e2 e3
        exact ⟨i, rfl, by simpa using e1, by simpa using e2, by simpa using e3⟩
    obtain ⟨hz, hs, hby⟩ := hz3
    have hmk := run_make (P := Try.prog) wc 26 3 i3 _ Try.underlying26 hi3 hz .i64 .i64 (3 * (n : Int)) (3 * (n : Int)) (by omega) (by omega) (by rw [hby]; omega) (by omega)
    rw [hs, show (3 * (n : Int)).toNat = 3 * n by omega] at hmk
    have htab := made_tab wc #[.int .i64 0] 3 (3 * n) 1 (by omega) rfl
    rw [Nat.mul_one] at hmk htab
    have hB2 : Below w.heap.size w (wc.alloc (.cells (madeCells #[.int .i64 0] (3 * n)) 3)) := hB.alloc hB.size _
    have hgw2 := (Below.heap_alloc wc (.cells (madeCells #[.int .i64 0] (3 * n)) 3) gw (Array.getElem?_eq_some_iff.1 hgw).1).trans hgw
    have hge2 := World.alloc_heap_new wc (.cells (madeCells #[.int .i64 0] (3 * n)) 3)
    have hgwl := (Array.getElem?_eq_some_iff.1 hgw).1
    have hes : (madeCells #[Value.int .i64 0] (3 * n)).size = 3 * n := size_madeCells _ _
    have hcs := hB.size
    obtain ⟨ge, hge⟩ : ∃ ge, wc.heap.size = ge := ⟨_, rfl⟩
    rw [hge] at hge2 hmk
    have hmk2 : (Instr.makeSlice 26 (.int .i64 (3 * (n : Int))) (.int .i64 (3 * (n : Int)))).run Try.prog wc = .ok (.slice (some ⟨ge, 0, none⟩) (3 * n) (3 * n)) (wc.alloc (.cells (madeCells #[.int .i64 0] (3 * n)) 3)) := hmk
    generalize hwm : (wc.alloc (.cells (madeCells #[.int .i64 0] (3 * n)) 3)) = wm at *
    have f9 : wm.cell? ⟨gw, 9, none⟩ = some (.slice none 0 0) := cell_of_blk hgw2 _ rfl
    have f10 : wm.cell? ⟨gw, 10, none⟩ = some (.slice none 0 0) := cell_of_blk hgw2 _ rfl
    have f11 : wm.cell? ⟨gw, 11, none⟩ = some (.slice none 0 0) := cell_of_blk hgw2 _ rfl
    have z9 := froz_of_blk hgw2 9
    have z10 := froz_of_blk hgw2 10
    have z11 := froz_of_blk hgw2 11
    have HWM := Lib.hid hwm
    have HGW := Lib.hid hgw2
    have HGE := Lib.hid hge2
    have HES := Lib.hid hes
    clear hgw hmk hwm hgw2 hge2 htab hes HCB
    go_wp2_with fail
    go_loopg [31] 3 (fun r x wr => ∃ (k : Nat) (v0 v1 v2 : Value), k + r = 3 ∧ x = .int .i64 k ∧ wr.heap[gw]? = some (.cells (winV m cl v0 v1 v2) 94 (0, 0)) ∧ Hid (∀ j, j < k → ∃ A, wr.cell? ⟨gw, 9 + j, none⟩ = some (.slice (some ⟨ge, A, none⟩) 0 n) ∧ (0 < n → A = j * n)) ∧ Hid (wr.heap[ge]? = some (.cells (madeCells #[.int .i64 0] (3 * n)) 3 (0, 0))) ∧ Below w.heap.size w wr)
    case atStart => exact ⟨0, _, _, _, rfl, rfl, HGW.out, Lib.hid fun j hj => absurd hj (by omega), HGE, hB2⟩
    case round =>
      clear hB2 HGE f9 f10 f11 z9 z10 z11 hmk2 HGW
      obtain ⟨k, v0, v1, v2, hk, rfl, hgw, hQ, hE, hBr⟩ := hrel
      by_cases hlt : k < 3
      · have hf : ∃ u, wr.cell? ⟨gw, 9 + k, none⟩ = some u := by
          rw [cell_of_row _ _ _ _ _ _ hgw]
          match k, hlt with
          | 0, _ => exact ⟨v0, rfl⟩
          | 1, _ => exact ⟨v1, rfl⟩
          | 2, _ => exact ⟨v2, rfl⟩
        obtain ⟨u, hf⟩ := hf
        have hz := froz_of_blk hgw (9 + k)
        have hkn : k * n ≤ 2 * n := Nat.mul_le_mul_right _ (by omega)
        have hkn1 : (k + 1) * n = k * n + n := by rw [Nat.add_mul, Nat.one_mul]
        obtain ⟨K, hK⟩ : ∃ K, k * n = K := ⟨_, rfl⟩
        rw [hK] at hkn hkn1
        have e1 : (k : Int) * (n : Int) = (K : Int) := by rw [← hK]; push_cast; rfl
        have e2 : ((k : Int) + 1) * (n : Int) = (K : Int) + (n : Int) := by
          have : (((k + 1) * n : Nat) : Int) = ((K + n : Nat) : Int) := by rw [hkn1]
          push_cast at this; exact this
        have q0 : (0 : Int) ≤ (k : Int) := by omega
        have q1 : (k : Int) < 3 := by omega
        have b0 : (0 : Int) ≤ (K : Int) := by omega
        have b1 : (K : Int) ≤ (K : Int) + (n : Int) := by omega
        have b2 : (K : Int) + (n : Int) ≤ 3 * (n : Int) := by omega
        have t1 : IntKind.i64.wrap (K : Int) = K := IntWalk.i64_in _ (by omega)
        have t2 : IntKind.i64.wrap ((K : Int) + (n : Int)) = (K : Int) + n := IntWalk.i64_in _ (by omega)
        have t3 : IntKind.i64.wrap ((k : Int) + 1) = (k : Int) + 1 := IntWalk.i64_in _ (by omega)
        have HGWB := Lib.hid hgw
        clear hkn1 hgw
        go_wp2_with fail
        go_region
        all_goals
          obtain ⟨A, hA, hA2⟩ : ∃ A, (if n = 0 then some (⟨ge, 0, none⟩ : Addr) else some ⟨ge, K, none⟩) = some ⟨ge, A, none⟩ ∧ (0 < n → A = K) := by
            by_cases h0 : n = 0
            · exact ⟨0, by rw [if_pos h0], fun h => by omega⟩
            · exact ⟨K, by rw [if_neg h0], fun _ => rfl⟩
          rw [hA]
          obtain ⟨u0, u1, u2, hset⟩ := winV_set m cl v0 v1 v2 (.slice (some ⟨ge, A, none⟩) 0 n) k hlt
          have hgw2 := heap_setCell_same wr gw (9 + k) _ 94 (.slice (some ⟨ge, A, none⟩) 0 n) HGWB.out
          rw [hset] at hgw2
          have HGW2 := Lib.hid hgw2
          have HA := Lib.hid hA2
          clear hgw2 hset hA hA2
          go_wp2_with fail
          all_goals
            go_roundg (2 - k)
            case rel =>
              refine ⟨k + 1, u0, u1, u2, by omega, by go_num, HGW2.out, Lib.hid fun j hj => ?_, Lib.hid ((Below.heap_setCell _ _ _ _ (by simp; omega)).trans hE.out), (hBr.setCell hgl _).drew⟩
              by_cases e : j = k
              · subst e; exact ⟨A, World.cell?_setCell_same _ _ _ hf, fun h => by rw [HA.out h, hK]⟩
              · obtain ⟨A', h1, h2⟩ := hQ.out j (by omega)
                exact ⟨A', (World.cell?_setCell_other _ _ _ _ (by intro h3; injection h3 with _ h4; omega)).trans h1, h2⟩
            case measure => omega
      · obtain rfl : k = 3 := by omega
        have HG2 := Lib.hid hgw
        have hcs2 : wc.heap.size ≤ wr.heap.size ∨ True := .inr trivial
        clear hgw
        go_wp2
        go_ret
        refine ⟨gw, ge, rfl, ⟨⟨v0, v1, v2, HG2.out⟩, ⟨_, hE.out, HES.out⟩, by omega, fun j hj => ?_⟩, hgl, by omega, hBr⟩
        obtain ⟨A, h1, h2⟩ := hQ.out j hj
        have e : Wq.nil.get j = [] := by
          match j, hj with
          | 0, _ => rfl
          | 1, _ => rfl
          | 2, _ => rfl
        refine ⟨A, 0, by rw [e]; simp, ?_⟩
        rw [e]
        exact ⟨h1, by simp, fun h => by rw [h2 h]; rfl, by simp⟩

end Go.Proofs.Ytifgpjhodajccaa
