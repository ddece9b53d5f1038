/-
  The walks of the closure of split.Cuts, and of sort.Search over it. Condition: the slice's length is at most its capacity.
-/
import Derived.Test.YtifgpjhodajccaaWalkJ
namespace Go.Proofs.Ytifgpjhodajccaa
open Go.RowKit

/-- Binary search: the least number at which f holds, as sort.Search looks for it. -/
def searchF (f : Nat → Bool) : Nat → Nat → Nat → Nat
  | 0, i, _ => i
  | r + 1, i, j => if i < j then (if f ((i + j) / 2) = true then searchF f r i ((i + j) / 2) else searchF f r ((i + j) / 2 + 1) j) else i

set_option maxRecDepth 100000 in
set_option maxHeartbeats 4000000 in
theorem closure_any (a : Option Addr) (n cap ver l i gr gv gl : Nat) (bs : List Int) (w : World) (h : RdU w a n bs) (hby : ∀ b ∈ bs, 0 ≤ b ∧ b < 256) (l1 : 1 ≤ l) (l2 : l ≤ 4) (hi : i < n) (hn : n ≤ 4096) (hcap : n ≤ cap) (hcap2 : cap ≤ 9223372036854775807)
    (c1 : w.cell? ⟨gr, 0, none⟩ = some (.slice a n cap)) (c2 : w.cell? ⟨gv, 0, none⟩ = some (.int .i64 ver)) (c3 : w.cell? ⟨gl, 0, none⟩ = some (.int .i64 l)) :
    Calls Try.prog 23 #[.int .i64 i, .pointer (some ⟨gr, 0, none⟩), .pointer (some ⟨gv, 0, none⟩), .pointer (some ⟨gl, 0, none⟩)] w fun e w' => e = .returned (.bool (!fitsF (bs.take (i + 1)) ver l 20)) ∧ Below w.heap.size w w' := by
  have ht := h.take (i + 1) (by omega)
  have HF := Lib.hid (splitFits_any a (i + 1) cap ver l 20 (bs.take (i + 1)) w.drew ⟨ht.len, ht.le, ht.cell⟩ (fun b hb => hby b (List.mem_of_mem_take hb)) l1 l2 (by omega) (by omega) (by omega) (by omega) hcap2)
  have q0 : (0 : Int) ≤ (i : Int) + 1 := by omega
  have q1 : (i : Int) + 1 ≤ (cap : Int) := by omega
  have t1 : IntKind.i64.wrap ((i : Int) + 1) = (i : Int) + 1 := IntWalk.i64_in _ (by omega)
  clear h hby ht
  go_enter Try.func23, Try.ntmps23
  go_wp2_with fail
  go_region_with (go_at_call 21; refine HF.out.mono ?_; rintro e w5 ⟨rfl, hb5⟩)
  all_goals
    go_wp2
    go_ret
    exact ⟨rfl, ⟨hb5.os, hb5.tape, hb5.output, hb5.size, hb5.block⟩⟩

theorem searchF_le (f : Nat → Bool) : ∀ (r i j : Nat), i ≤ j → searchF f r i j ≤ j
  | 0, i, j, h => h
  | r + 1, i, j, h => by
    rw [searchF]
    split
    · split
      · exact Nat.le_trans (searchF_le f r i ((i + j) / 2) (by omega)) (by omega)
      · exact searchF_le f r ((i + j) / 2 + 1) j (by omega)
    · exact h

set_option maxRecDepth 100000 in
set_option maxHeartbeats 4000000 in
theorem search_any (n : Nat) (f : Nat → Bool) (p1 p2 p3 : Value) (w : World) (hn : n ≤ 4096)
    (hf : ∀ i : Nat, i < n → ∀ W, Below w.heap.size w W → Calls Try.prog 23 #[.int .i64 i, p1, p2, p3] W fun e w' => e = .returned (.bool (f i)) ∧ Below W.heap.size W w') :
    Calls Try.prog 22 #[.int .i64 n, .func (.func 23) #[] #[p1, p2, p3]] w fun e w' => e = .returned (.int .i64 (searchF f n 0 n : Nat)) ∧ Below w.heap.size w w' := by
  have HF := Lib.hid hf
  clear hf
  go_enter Try.func22, Try.ntmps22
  go_wp2_with fail
  go_loopg [5, 6] n (fun r x y wr => ∃ i j : Nat, x = .int .i64 i ∧ y = .int .i64 j ∧ i ≤ j ∧ j ≤ n ∧ j - i ≤ r ∧ Hid (searchF f r i j = searchF f n 0 n) ∧ Below w.heap.size w wr)
  case atStart => exact ⟨0, n, rfl, rfl, Nat.zero_le _, Nat.le_refl _, Nat.le_refl _, rfl, Below.refl _ _⟩
  case round =>
    obtain ⟨i, j, rfl, rfl, hij, hjn, hr, hS, hB⟩ := hrel
    by_cases hlt : i < j
    · obtain ⟨g, rfl⟩ : ∃ g, gk = g + 1 := ⟨gk - 1, by omega⟩
      obtain ⟨m, hm⟩ : ∃ m, (i + j) / 2 = m := ⟨_, rfl⟩
      have hst : searchF f (g + 1) i j = if f m = true then searchF f g i m else searchF f g (m + 1) j := by
        rw [searchF, if_pos hlt, hm]
      have HST := Lib.hid hst
      have hmi : i ≤ m ∧ m < j := by omega
      have hcall := HF.out m (by omega) wr hB
      have HC := Lib.hid hcall
      have hmz : ((i : Int) + (j : Int)) / 2 = (m : Int) := by omega
      clear hst hcall HF
      go_wp2_with fail
      obtain ⟨hm1, hm2⟩ := hmi
      cases hfm : f m with
      | true =>
        have hst2 := HST.out
        rw [hfm, if_pos rfl] at hst2
        have hc2 := HC.out
        rw [hfm] at hc2
        have HC2 := Lib.hid hc2
        have HST2 := Lib.hid hst2
        clear hst2 hc2 HC HST hfm
        refine HC2.out.mono ?_
        rintro e w5 ⟨rfl, hb5⟩
        have hB5 : Below w.heap.size w w5 := below_tr hB hB.size hb5
        go_wp2_with fail
        go_roundg g
        case rel => exact ⟨i, m, rfl, rfl, hm1, by omega, by omega, by rw [← hS.out, HST2.out]; rfl, hB5⟩
        case measure => omega
      | false =>
        have hst2 := HST.out
        rw [hfm, if_neg (by simp)] at hst2
        have hc2 := HC.out
        rw [hfm] at hc2
        have HC2 := Lib.hid hc2
        have HST2 := Lib.hid hst2
        clear hst2 hc2 HC HST hfm
        refine HC2.out.mono ?_
        rintro e w5 ⟨rfl, hb5⟩
        have hB5 : Below w.heap.size w w5 := below_tr hB hB.size hb5
        go_wp2_with fail
        go_roundg g
        case rel => exact ⟨m + 1, j, by go_num, rfl, by omega, hjn, by omega, by rw [← hS.out, HST2.out]; rfl, hB5⟩
        case measure => omega
    · have hval : searchF f n 0 n = i := by
        rw [← hS.out]
        cases gk with
        | zero => rfl
        | succ g => rw [searchF, if_neg hlt]
      have HV := Lib.hid hval
      clear hval HF
      go_wp2
      go_ret
      refine ⟨?_, hB⟩
      rw [HV.out]; rfl

end Go.Proofs.Ytifgpjhodajccaa
