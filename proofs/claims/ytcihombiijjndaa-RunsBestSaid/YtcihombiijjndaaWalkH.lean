/-
  The walks of the methods of the queue of runs.Quantize and of container/heap over it. Condition: at most a million widths.
-/
import Derived.Test.YtcihombiijjndaaWalkB
import Derived.Test.YtcihombiijjndaaHeap
namespace Go.Proofs.Ytcihombiijjndaa
open Go.RowKit
theorem m_any (nm : String) (k : FuncId) (a : Addr) (w : World) (v : Value) (h : w.cell? a = some v)
    (e : (method 177 50 (.pointer (some a)) nm).run Try.prog w = (Sem.load .plain a (fun v => Sem.pure (k, v))).run Try.prog w) :
    (method 177 50 (.pointer (some a)) nm).run Try.prog w = .ok (k, v) w := by
  rw [e]; simp only [Sem.run, h]
theorem m_len {a : Addr} {w : World} {v : Value} (h : w.cell? a = some v) : (method 177 50 (.pointer (some a)) "Len").run Try.prog w = .ok (53, v) w := m_any _ _ _ _ _ h (by kernel_rfl)
theorem m_less {a : Addr} {w : World} {v : Value} (h : w.cell? a = some v) : (method 177 50 (.pointer (some a)) "Less").run Try.prog w = .ok (54, v) w := m_any _ _ _ _ _ h (by kernel_rfl)
theorem m_swap {a : Addr} {w : World} {v : Value} (h : w.cell? a = some v) : (method 177 50 (.pointer (some a)) "Swap").run Try.prog w = .ok (55, v) w := m_any _ _ _ _ _ h (by kernel_rfl)

set_option maxHeartbeats 800000 in
theorem less_any (g n cap i j : Nat) (qs : List Sh) (s t : Sh) (w : World) (hg : w.heap[g]? = some (.cells (flat qs).toArray 48 (0, 0))) (hi : qs[i]? = some s) (hj : qs[j]? = some t)
    (hin : i < n) (hjn : j < n) :
    Calls Try.prog 54 #[.slice (some ⟨g, 0, none⟩) n cap, .int .i64 i, .int .i64 j] w fun e w' => e = .returned (.bool (lessB s t)) ∧ Below w.heap.size w w' := by
  have hc : ∀ (i : Nat) (s : Sh), qs[i]? = some s → ∀ k, k < 3 → w.cell? ⟨g, i * 3 + k, none⟩ = s.cells[k]? := fun i s h k hk => by
    simp only [World.cell?, hg]; simpa using flat_at qs i s h k hk
  have h1 := hc i s hi 0 (by omega)
  have h2 := hc i s hi 2 (by omega)
  have h3 := hc j t hj 0 (by omega)
  have h4 := hc j t hj 2 (by omega)
  simp [Sh.cells] at h1 h2 h3 h4
  clear hc hi hj hg
  by_cases he : s.co = t.co
  · have hb : (s.co != t.co) = false := by simpa using he
    have HE := Lib.hid he; clear he
    go_enter Try.func54, Try.ntmps54
    go_wp2
    go_quiet (fail)
    go_wp2
    go_quiet (fail)
    go_wp2
    go_ret
    exact ⟨by unfold lessB; rw [if_pos HE.out]; rfl, below_drewN (below_drewN (Below.refl _ _) _) _⟩
  · have hb : (s.co != t.co) = true := by rw [bne_iff_ne]; exact he
    have HE := Lib.hid he; clear he
    go_enter Try.func54, Try.ntmps54
    go_wp2
    go_quiet (fail)
    go_wp2
    go_quiet (fail)
    go_wp2
    go_ret
    exact ⟨by unfold lessB; rw [if_neg HE.out]; rfl, below_drewN (below_drewN (Below.refl _ _) _) _⟩

theorem set_block {w : World} {g e : Nat} {c : List Value} (h : w.heap[g]? = some (.cells c.toArray e (0, 0))) (o : Nat) (v : Value) : (w.setCell ⟨g, o, none⟩ v).heap[g]? = some (.cells (c.set o v).toArray e (0, 0)) := by
  simp [World.setCell, Array.getElem?_modify, h]

theorem set_grown {w w' : World} {g : Nat} (h : w.grownBy w' (some g)) (o : Nat) (v : Value) : w.grownBy (w'.setCell ⟨g, o, none⟩ v) (some g) :=
  ⟨h.os, h.tape, h.output, by simpa [World.setCell] using h.size, fun k hk hne => (Below.heap_setCell w' ⟨g, o, none⟩ v k (by rintro rfl; exact hne rfl)).trans (h.block k hk hne)⟩

theorem drew_heap (w : World) : w.drew.heap = w.heap := rfl
theorem grown_refl (w : World) (r : Option Nat) : w.grownBy w r := ⟨rfl, rfl, rfl, Nat.le_refl _, fun _ _ _ => rfl⟩
theorem grown_drew {w w' : World} {r : Option Nat} (h : w.grownBy w' r) : w.grownBy w'.drew r := ⟨h.os, h.tape, h.output, h.size, h.block⟩
theorem grown_trans {a b c : World} {r : Option Nat} (h : a.grownBy b r) (k : b.grownBy c r) : a.grownBy c r :=
  ⟨k.os.trans h.os, k.tape.trans h.tape, k.output.trans h.output, Nat.le_trans h.size k.size, fun i hi hne => (k.block i (Nat.lt_of_lt_of_le hi h.size) hne).trans (h.block i hi hne)⟩

set_option maxHeartbeats 800000 in
theorem swap_any (g n cap i j : Nat) (qs : List Sh) (s t : Sh) (w : World) (hg : w.heap[g]? = some (.cells (flat qs).toArray 48 (0, 0))) (hi : qs[i]? = some s) (hj : qs[j]? = some t)
    (hin : i < n) (hjn : j < n)  (hij : i ≠ j):
    Calls Try.prog 55 #[.slice (some ⟨g, 0, none⟩) n cap, .int .i64 i, .int .i64 j] w fun e w' => e = .returned (.tuple #[]) ∧ w'.heap[g]? = some (.cells (flat ((qs.set i t).set j s)).toArray 48 (0, 0)) ∧ w.grownBy w' (some g) := by
  have hc : ∀ (i : Nat) (s : Sh), qs[i]? = some s → ∀ k, k < 3 → w.cell? ⟨g, i * 3 + k, none⟩ = s.cells[k]? := fun i s h k hk => by
    simp only [World.cell?, hg]; simpa using flat_at qs i s h k hk
  have hf : ∀ o, w.frozen? ⟨g, o, none⟩ = false := fun o => by simp [World.frozen?, hg]
  have h1 := hc i s hi 0 (by omega)
  have h2 := hc i s hi 1 (by omega)
  have h3 := hc i s hi 2 (by omega)
  have k1 := hc j t hj 0 (by omega)
  have k2 := hc j t hj 1 (by omega)
  have k3 := hc j t hj 2 (by omega)
  simp [Sh.cells] at h1 h2 h3 k1 k2 k3
  clear hc
  go_enter Try.func55, Try.ntmps55
  go_wp2
  go_region
  all_goals
    go_end0
    refine ⟨rfl, ?_, ?_⟩
    · rw [flat_set, flat_set, drew_heap]
      exact set_block (set_block (set_block (set_block (set_block (set_block hg _ _) _ _) _ _) _ _) _ _) _ _
    · exact grown_drew (set_grown (set_grown (set_grown (set_grown (set_grown (set_grown (grown_refl _ _) _ _) _ _) _ _) _ _) _ _) _ _)

theorem len_any (a : Option Addr) (n cap : Nat) (w : World) : Calls Try.prog 53 #[.slice a n cap] w fun e w' => e = .returned (.int .i64 n) ∧ w = w' := by
  go_enter Try.func53, Try.ntmps53
  go_wp2
  go_ret
  exact ⟨rfl, rfl⟩

/-- The queue: its box, its row of shares. -/
structure HQ (w : World) (Bq g n : Nat) (qs : List Sh) : Prop where
  box : w.heap[Bq]? = some (.cells #[.slice (some ⟨g, 0, none⟩) n n] 46 (0, 0))
  row : w.heap[g]? = some (.cells (flat qs).toArray 48 (0, 0))
  len : qs.length = n
  ne : Bq ≠ g

theorem HQ.cell {w : World} {Bq g n : Nat} {qs : List Sh} (h : HQ w Bq g n qs) : w.cell? ⟨Bq, 0, none⟩ = some (.slice (some ⟨g, 0, none⟩) n n) := by simp [World.cell?, h.box]
theorem HQ.below {w w' : World} {Bq g n : Nat} {qs : List Sh} (h : HQ w Bq g n qs) (hb : Below w.heap.size w w') : HQ w' Bq g n qs :=
  ⟨(hb.block _ (Array.getElem?_eq_some_iff.1 h.box).1).trans h.box, (hb.block _ (Array.getElem?_eq_some_iff.1 h.row).1).trans h.row, h.len, h.ne⟩
theorem grown_of_below {w w' : World} {r : Option Nat} (h : Below w.heap.size w w') : w.grownBy w' r := ⟨h.os, h.tape, h.output, h.size, fun k hk _ => h.block k hk⟩

theorem less_at (x y : Int) (i j : Nat) (hx : x = i) (hy : y = j) (Bq g n : Nat) (qs : List Sh) (w : World) (h : HQ w Bq g n qs) (hin : i < n) (hjn : j < n) :
    Calls Try.prog 54 #[.slice (some ⟨g, 0, none⟩) n n, .int .i64 x, .int .i64 y] w fun e w' => e = .returned (.bool (lessB (gt qs i) (gt qs j))) ∧ Below w.heap.size w w' := by
  subst hx; subst hy
  exact less_any g n n i j qs _ _ w h.row (gt_some (by rw [h.len]; exact hin)) (gt_some (by rw [h.len]; exact hjn)) hin hjn

theorem swap_at (x y : Int) (i j : Nat) (hx : x = i) (hy : y = j) (Bq g n : Nat) (qs : List Sh) (w : World) (h : HQ w Bq g n qs) (hin : i < n) (hjn : j < n) (hij : i ≠ j) :
    Calls Try.prog 55 #[.slice (some ⟨g, 0, none⟩) n n, .int .i64 x, .int .i64 y] w fun e w' => e = .returned (.tuple #[]) ∧ HQ w' Bq g n (swapF qs i j) ∧ w.grownBy w' (some g) := by
  subst hx; subst hy
  refine (swap_any g n n i j qs _ _ w h.row (gt_some (by rw [h.len]; exact hin)) (gt_some (by rw [h.len]; exact hjn)) hin hjn hij).mono ?_
  rintro e w' ⟨rfl, hg, hgr⟩
  exact ⟨rfl, ⟨(hgr.block _ (Array.getElem?_eq_some_iff.1 h.box).1 (by simp; exact h.ne)).trans h.box, hg, by rw [swapF_length]; exact h.len, h.ne⟩, hgr⟩

set_option maxHeartbeats 2000000 in
theorem down_any (Bq g n i0 : Nat) (qs : List Sh) (w : World) (h : HQ w Bq g n qs) (hn : n ≤ 1000000) (hi0 : i0 < n) :
    Calls Try.prog 35 #[.iface 50 (.pointer (some ⟨Bq, 0, none⟩)), .int .i64 i0, .int .i64 n] w fun e w' =>
      e = .returned (.bool (decide (i0 < (downF n qs i0).2))) ∧ HQ w' Bq g n (downF n qs i0).1 ∧ w.grownBy w' (some g) := by
  go_enter Try.func35, Try.ntmps35
  go_wp2
  go_loopw [7] (fun x wr => ∃ (f i : Nat) (qs' : List Sh), i < n ∧ n ≤ f + i ∧ i0 ≤ i ∧ x = .int .i64 i ∧ HQ wr Bq g n qs' ∧ w.grownBy wr (some g) ∧ Hid (downF f qs' i = downF n qs i0)) (fun x _ => n - (intOf x).toNat)
  case atStart => exact ⟨n, i0, qs, hi0, by omega, Nat.le_refl _, rfl, h, grown_refl _ _, rfl⟩
  case round =>
    obtain ⟨f, i, qs', hin, hfn, hi0i, rfl, hQ, hg, hR⟩ := hrel
    obtain ⟨f, rfl⟩ : ∃ f', f = f' + 1 := ⟨f - 1, by omega⟩
    have HR := hR; clear hR
    have hqn := Lib.hid hQ.len
    by_cases hj1 : 2 * i + 1 < n
    · by_cases hj2 : 2 * i + 2 < n
      · cases hls : lessB (gt qs' (2 * i + 2)) (gt qs' (2 * i + 1)) with
        | true =>
          have hch : child qs' i = 2 * i + 2 := by unfold child; rw [if_pos ⟨by rw [hQ.len]; exact hj2, hls⟩]
          have HCH := Lib.hid hch; have HLS := Lib.hid hls; clear hch hls
          have hm1 := m_less hQ.cell
          have hd2 : decide (2 * (i : Int) + 1 + 1 < n) = true := by simp; omega
          go_wp2_with fail
          refine (less_at _ _ (2 * i + 2) (2 * i + 1) (by omega) (by omega) Bq g n qs' _ hQ (by omega) (by omega)).mono ?_
          rintro e w1 ⟨rfl, hb1⟩
          have HQ1 := hQ.below hb1
          have hg1 := grown_trans hg (grown_of_below hb1)
          clear hm1 hb1
          rw [HLS.out]
          have hm2 := m_less HQ1.cell
          go_wp2_with fail
          refine (less_at _ _ (2 * i + 2) i (by omega) rfl Bq g n qs' _ HQ1 (by omega) hin).mono ?_
          rintro e w2 ⟨rfl, hb2⟩
          have HQ2 := HQ1.below hb2
          have hg2 := grown_trans hg1 (grown_of_below hb2)
          clear hm2
          cases hless : lessB (gt qs' (2 * i + 2)) (gt qs' i) with
          | false =>
            have hfin : downF (f + 1) qs' i = (qs', i) := by unfold downF; rw [if_neg (by rw [hqn.out]; omega), HCH.out, if_neg (by rw [hless]; simp)]
            have HF := Lib.hid hfin; clear hfin hless hb2
            go_wp2
            go_ret
            exact ⟨ret_bool (by rw [← HR.out, HF.out]), by rw [← HR.out, HF.out]; exact HQ2, hg2⟩
          | true =>
            have hnx : downF (f + 1) qs' i = downF f (swapF qs' i (2 * i + 2)) (2 * i + 2) := by rw [downF, if_neg (by rw [hqn.out]; omega), HCH.out, if_pos hless]
            have HN := Lib.hid hnx; clear hnx hless hb2
            have hm3 := m_swap HQ2.cell
            go_wp2_with fail
            refine (swap_at _ _ i (2 * i + 2) rfl (by omega) Bq g n qs' _ HQ2 hin (by omega) (by omega)).mono ?_
            rintro e w3 ⟨rfl, HQ3, hg3⟩
            clear hm3
            go_wp2
            go_roundw
            case rel => exact ⟨f, 2 * i + 2, swapF qs' i (2 * i + 2), by omega, by omega, by omega, by go_num, HQ3, grown_trans hg2 hg3, by rw [← HR.out, HN.out]; rfl⟩
            case measure => simp [intOf]; omega
        | false =>
          have hch : child qs' i = 2 * i + 1 := by unfold child; rw [if_neg (by rw [hls]; simp)]
          have HCH := Lib.hid hch; have HLS := Lib.hid hls; clear hch hls
          have hm1 := m_less hQ.cell
          have hd2 : decide (2 * (i : Int) + 1 + 1 < n) = true := by simp; omega
          go_wp2_with fail
          refine (less_at _ _ (2 * i + 2) (2 * i + 1) (by omega) (by omega) Bq g n qs' _ hQ (by omega) (by omega)).mono ?_
          rintro e w1 ⟨rfl, hb1⟩
          have HQ1 := hQ.below hb1
          have hg1 := grown_trans hg (grown_of_below hb1)
          clear hm1 hb1
          rw [HLS.out]
          have hm2 := m_less HQ1.cell
          go_wp2_with fail
          refine (less_at _ _ (2 * i + 1) i (by omega) rfl Bq g n qs' _ HQ1 (by omega) hin).mono ?_
          rintro e w2 ⟨rfl, hb2⟩
          have HQ2 := HQ1.below hb2
          have hg2 := grown_trans hg1 (grown_of_below hb2)
          clear hm2
          cases hless : lessB (gt qs' (2 * i + 1)) (gt qs' i) with
          | false =>
            have hfin : downF (f + 1) qs' i = (qs', i) := by unfold downF; rw [if_neg (by rw [hqn.out]; omega), HCH.out, if_neg (by rw [hless]; simp)]
            have HF := Lib.hid hfin; clear hfin hless hb2
            go_wp2
            go_ret
            exact ⟨ret_bool (by rw [← HR.out, HF.out]), by rw [← HR.out, HF.out]; exact HQ2, hg2⟩
          | true =>
            have hnx : downF (f + 1) qs' i = downF f (swapF qs' i (2 * i + 1)) (2 * i + 1) := by rw [downF, if_neg (by rw [hqn.out]; omega), HCH.out, if_pos hless]
            have HN := Lib.hid hnx; clear hnx hless hb2
            have hm3 := m_swap HQ2.cell
            go_wp2_with fail
            refine (swap_at _ _ i (2 * i + 1) rfl (by omega) Bq g n qs' _ HQ2 hin (by omega) (by omega)).mono ?_
            rintro e w3 ⟨rfl, HQ3, hg3⟩
            clear hm3
            go_wp2
            go_roundw
            case rel => exact ⟨f, 2 * i + 1, swapF qs' i (2 * i + 1), by omega, by omega, by omega, by go_num, HQ3, grown_trans hg2 hg3, by rw [← HR.out, HN.out]; rfl⟩
            case measure => simp [intOf]; omega
      · have hch : child qs' i = 2 * i + 1 := by unfold child; rw [if_neg (by rw [hQ.len]; omega)]
        have hd2 : decide (2 * (i : Int) + 1 + 1 < n) = false := by simp; omega
        have HCH := Lib.hid hch; clear hch
        have HQ1 := hQ
        have hg1 := hg

        have hm2 := m_less HQ1.cell
        go_wp2_with fail
        refine (less_at _ _ (2 * i + 1) i (by omega) rfl Bq g n qs' _ HQ1 (by omega) hin).mono ?_
        rintro e w2 ⟨rfl, hb2⟩
        have HQ2 := HQ1.below hb2
        have hg2 := grown_trans hg1 (grown_of_below hb2)
        clear hm2
        cases hless : lessB (gt qs' (2 * i + 1)) (gt qs' i) with
        | false =>
          have hfin : downF (f + 1) qs' i = (qs', i) := by unfold downF; rw [if_neg (by rw [hqn.out]; omega), HCH.out, if_neg (by rw [hless]; simp)]
          have HF := Lib.hid hfin; clear hfin hless hb2
          go_wp2
          go_ret
          exact ⟨ret_bool (by rw [← HR.out, HF.out]), by rw [← HR.out, HF.out]; exact HQ2, hg2⟩
        | true =>
          have hnx : downF (f + 1) qs' i = downF f (swapF qs' i (2 * i + 1)) (2 * i + 1) := by rw [downF, if_neg (by rw [hqn.out]; omega), HCH.out, if_pos hless]
          have HN := Lib.hid hnx; clear hnx hless hb2
          have hm3 := m_swap HQ2.cell
          go_wp2_with fail
          refine (swap_at _ _ i (2 * i + 1) rfl (by omega) Bq g n qs' _ HQ2 hin (by omega) (by omega)).mono ?_
          rintro e w3 ⟨rfl, HQ3, hg3⟩
          clear hm3
          go_wp2
          go_roundw
          case rel => exact ⟨f, 2 * i + 1, swapF qs' i (2 * i + 1), by omega, by omega, by omega, by go_num, HQ3, grown_trans hg2 hg3, by rw [← HR.out, HN.out]; rfl⟩
          case measure => simp [intOf]; omega
    · have hfin : downF (f + 1) qs' i = (qs', i) := by unfold downF; rw [if_pos (by rw [hQ.len]; omega)]
      have HF := Lib.hid hfin; clear hfin
      go_wp2
      go_ret
      exact ⟨ret_bool (by rw [← HR.out, HF.out]), by rw [← HR.out, HF.out]; exact hQ, hg⟩
end Go.Proofs.Ytcihombiijjndaa
