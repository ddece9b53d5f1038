/-
  The walk of the reference's Quantize. Condition: fewer than 2^40 widths.
-/
import Derived.Test.YtcihombiijjndaaWalkK
import Derived.Test.YtcihombiijjndaaGreedyB
import Derived.IntWalk
namespace Go.Proofs.Ytcihombiijjndaa
open Go.RowKit

theorem bestF_lt (K : Nat → Int) : ∀ (f i b : Nat), b < i → bestF K f i b < i + f
  | 0, i, b, h => h
  | f + 1, i, b, h => by
    unfold bestF
    have := bestF_lt K f (i + 1) (if K i < K b then i else b) (by split <;> omega)
    omega

theorem key_bounds {S T o z : Int} (hS0 : 0 ≤ S) (hS : S ≤ 4294967296) (hT0 : 0 ≤ T) (hT : T ≤ 65536) (ho0 : 0 ≤ o) (ho : o ≤ 131072) (hz0 : 1 ≤ z) (hz : z ≤ 65536) :
    0 ≤ S * o ∧ S * o ≤ 562949953421312 ∧ 0 ≤ T * z ∧ T * z ≤ 4294967296 := by
  have h1 : 0 ≤ S * o := Int.mul_nonneg hS0 ho0
  have h2 : S * o ≤ 4294967296 * 131072 := Int.mul_le_mul hS ho ho0 (by omega)
  have h3 : 0 ≤ T * z := Int.mul_nonneg hT0 (by omega)
  have h4 : T * z ≤ 65536 * 65536 := Int.mul_le_mul hT hz (by omega) (by omega)
  omega

def Ones (r : Nat) (acc : List Int) : Prop := ∀ o ∈ acc, 0 ≤ o ∧ o ≤ 1 + r

theorem Ones.get {r : Nat} {acc : List Int} (h : Ones r acc) (i : Nat) (hi : i < acc.length) : 0 ≤ acc.getD i 0 ∧ acc.getD i 0 ≤ 1 + r := h _ (by simp [hi])

theorem Ones.set {r : Nat} {acc : List Int} (h : Ones r acc) (i : Nat) (hi : i < acc.length) : Ones (r + 1) (acc.set i (acc.getD i 0 + 1)) := by
  intro o ho
  rcases List.mem_or_eq_of_mem_set ho with h1 | rfl
  · have := h o h1; omega
  · have := h.get i hi; omega

set_option maxHeartbeats 4000000 in
theorem refQuantize_good (a : Option Addr) (n cap : Nat) (zs : List Int) (S T : Int) (w : World) (h : RdI w a n zs) (hSum : sumI zs = S) (h0 : 0 < n) (hn : n ≤ 65536) (hr : inR zs = true) (hT : (n : Int) ≤ T) (hT2 : T ≤ 65536) :
    Calls Try.prog 20 #[.slice a n cap, .int .i64 T] w (RetI (grF S T zs (T - n).toNat (List.replicate n 1)) 0 w) := by
  obtain ⟨i3, hi3, hz3a, hz3b, hz3c⟩ := info_parts info3
  have hlen := h.length
  have htot := total_any a n cap zs w h (by omega)
  rw [totalF_good zs 0 hr, Int.zero_add, hSum] at htot
  have hs0 := sumI_nonneg zs hr
  have hs1 := sumI_le zs hr
  rw [hlen, hSum] at hs1
  rw [hSum] at hs0
  have HMEM := Lib.hid (inR_mem hr)
  have H := Lib.hid h
  have HLEN := Lib.hid hlen
  have hb0 : ((n : Int) == 0) = false := beq_eq_false_iff_ne.2 (by omega)
  have hb3 : decide (S < 0) = false := by simp; omega
  have hb1 : decide (T < (n : Int)) = false := by simp; omega
  have hb2 : decide (65536 < T) = false := by simp; omega
  obtain ⟨M, hM⟩ : ∃ M : Nat, T = (n : Int) + (M : Int) := ⟨(T - n).toNat, by omega⟩
  have hM' : (T - n).toNat = M := by omega
  rw [hM']
  have HM := Lib.hid hM
  have hM1 : M ≤ 65536 := by omega
  clear hlen hr h hSum hM hM'
  go_enter Try.func20, Try.ntmps20
  go_wp2_with fail
  refine htot.mono ?_
  rintro e w' ⟨rfl, rfl⟩
  clear htot
  go_wp2
  go_loopw [7, 8] (fun v i wr => ∃ (k : Nat), k ≤ n ∧ i = .int .i64 k ∧ wr.ownsRow w.heap.size 3 1 v k ((List.replicate k (1 : Int)).map (Value.int .i64)) ∧ Below w.heap.size w wr) (fun _ i _ => n - (intOf i).toNat)
  case atStart => exact ⟨0, Nat.zero_le _, rfl, World.ownsRow_nil _ _ _ _, Below.refl _ _⟩
  case round =>
    obtain ⟨k, hk, rfl, hown, hB⟩ := hrel
    by_cases hlt : k < n
    · go_wp2_with (at_builtin; refine wpList_append_own _ rfl _ _ 22 rfl w.heap.size 3 i3 (.int .i64 0) 1 8 Try.underlying22 hi3 hz3a hz3b hz3c rfl (by decide) _ _ _ rfl (hown.alloc _) ⟨wr.heap.size, 0, none⟩ 1 1 [.int .i64 1] rfl rfl (cell_one_new _ _ _) (by simp [Value.oneCell']) ?c3 ?c4 ?c5 ?_)
      case c3 => unfold maxLen; omega
      case c4 => omega
      case c5 => have := hB.size; simp; omega
      intro v' w1 hown' hgrow _
      have hB3 := below_app hB hB.size hown hgrow
      clear hgrow hown
      go_wp2
      go_roundw
      case rel => exact ⟨k + 1, by omega, by go_num, own_congr hown' rfl (by simp [List.replicate_succ']), hB3⟩
      case measure => simp [intOf]; omega
    · have hkn : n = k := by omega
      subst hkn
      obtain ⟨wo, rfl⟩ : ∃ wo : World, wo = wr := ⟨_, rfl⟩
      rcases hown.2 with ⟨_, hnil⟩ | ⟨g, cp, cur, rfl, hg0, _⟩
      · omega
      go_wp2
      go_loopw [9] (fun x wr => ∃ (r : Nat) (acc : List Int), r ≤ M ∧ x = .int .i64 ((n : Int) + r) ∧ wr.ownsRow w.heap.size 3 1 (.slice (some ⟨g, 0, none⟩) n cp) n (acc.map (Value.int .i64)) ∧ Below w.heap.size w wr ∧ Hid (acc.length = n) ∧ Hid (Ones r acc) ∧
          Hid (grF S T zs (M - r) acc = grF S T zs M (List.replicate n 1))) (fun x _ => (T - intOf x).toNat)
      case atStart => exact ⟨0, _, Nat.zero_le _, by go_num, hown, hB, by simp [Hid], (fun o ho => by have := (List.mem_replicate.1 ho).2; omega), rfl⟩
      case round =>
        obtain ⟨r, acc, hrM, rfl, hown2, hB2, hal, hones, hG⟩ := hrel
        have hTM := HM.out
        by_cases hrlt : r < M
        · have hlT : (n : Int) + r < T := by omega
          have hGn : grF S T zs (M - (r + 1)) (acc.set (bestI S T zs acc) (acc.getD (bestI S T zs acc) 0 + 1)) = grF S T zs M (List.replicate n 1) := by
            rw [← hG.out, show M - r = (M - (r + 1)) + 1 by omega, grF]
          have HG := Lib.hid hGn
          have HBI : Hid (bestF (keyF S T zs acc) (n - 1) 1 0 = bestI S T zs acc) := by unfold bestI; rw [HLEN.out]; rfl
          clear hGn hG hTM
          obtain ⟨wi, rfl⟩ : ∃ wi : World, wi = wr := ⟨_, rfl⟩
          go_wp2
          go_loopw [10, 11] (fun y x wr => ∃ (i b : Nat), 1 ≤ i ∧ i ≤ n ∧ b < i ∧ y = .int .i64 b ∧ x = .int .i64 i ∧ Below wi.heap.size wi wr ∧ Hid (bestF (keyF S T zs acc) (n - i) i b = bestI S T zs acc)) (fun _ x _ => n - (intOf x).toNat)
          case atStart => exact ⟨1, 0, by omega, by omega, by omega, rfl, rfl, Below.refl _ _, HBI.out⟩
          case round =>
            obtain ⟨i, b, hi1, hin, hbi, rfl, rfl, hBi, hF⟩ := hrel
            have hown3 : wr.ownsRow w.heap.size 3 1 (.slice (some ⟨g, 0, none⟩) n cp) n (acc.map (Value.int .i64)) := own_below hown2 hBi
            have hBw : Below w.heap.size w wr := hB2.trans (hBi.mono hB2.size)
            by_cases hilt : i < n
            · have hf := hF.out
              rw [show n - i = (n - (i + 1)) + 1 by omega, bestF] at hf
              obtain ⟨b1, off1, z1, e1, hc1, hd1⟩ := (H.out.below hBw).at i hilt
              obtain ⟨b2, off2, z2, e2, hc2, hd2⟩ := (H.out.below hBw).at b (by omega)
              rw [e1] at e2; cases e2; subst e1
              have hz1m := HMEM.out z1 (List.mem_of_mem_drop (by rw [hd1]; simp))
              have hz2m := HMEM.out z2 (List.mem_of_mem_drop (by rw [hd2]; simp))
              have e1 : zs.getD i 0 = z1 := by rw [List.getD_eq_getElem?_getD, getElem?_of_drop hd1]; rfl
              have e2 : zs.getD b 0 = z2 := by rw [List.getD_eq_getElem?_getD, getElem?_of_drop hd2]; rfl
              have ho1 := hones.out.get i (by rw [hal.out]; exact hilt)
              have ho2 := hones.out.get b (by rw [hal.out]; omega)
              have hx1 : wr.cell? ⟨g, i, none⟩ = some (.int .i64 (acc.getD i 0)) := by
                rw [hown3.cellAt i (by omega)]
                have : i < acc.length := by rw [hal.out]; exact hilt
                simp [this]
              have hx2 : wr.cell? ⟨g, b, none⟩ = some (.int .i64 (acc.getD b 0)) := by
                rw [hown3.cellAt b (by omega)]
                have : b < acc.length := by rw [hal.out]; omega
                simp [this]
              have hk1 : keyF S T zs acc i = S * acc.getD i 0 - T * z1 := by unfold keyF; rw [e1]
              have hk2 : keyF S T zs acc b = S * acc.getD b 0 - T * z2 := by unfold keyF; rw [e2]
              rw [hk1, hk2] at hf
              generalize acc.getD i 0 = o1 at *
              generalize acc.getD b 0 = o2 at *
              obtain ⟨p1, p2, p3, p4⟩ := key_bounds hs0 (by omega) (by omega) hT2 ho1.1 (by omega) hz1m.1 hz1m.2
              obtain ⟨q1, q2, q3, q4⟩ := key_bounds hs0 (by omega) (by omega) hT2 ho2.1 (by omega) hz2m.1 hz2m.2
              have HF := Lib.hid hf
              clear hf hF hd1 hd2 e1 e2 hk1 hk2 ho1 ho2 hz1m hz2m
              have g1 : IntKind.i64.wrap (S * o1) = S * o1 := IntWalk.i64_in _ (by omega)
              have g2 : IntKind.i64.wrap (T * z1) = T * z1 := IntWalk.i64_in _ (by omega)
              have g3 : IntKind.i64.wrap (S * o2) = S * o2 := IntWalk.i64_in _ (by omega)
              have g4 : IntKind.i64.wrap (T * z2) = T * z2 := IntWalk.i64_in _ (by omega)
              have g5 : IntKind.i64.wrap (S * o1 - T * z1) = S * o1 - T * z1 := IntWalk.i64_in _ (by omega)
              have g6 : IntKind.i64.wrap (S * o2 - T * z2) = S * o2 - T * z2 := IntWalk.i64_in _ (by omega)
              by_cases hcmp : S * o1 - T * z1 < S * o2 - T * z2
              · have hd : decide (S * o1 - T * z1 < S * o2 - T * z2) = true := by simpa using hcmp
                go_wp2
                go_quiet (fail)
                clear g1 g2 g3 g4 g5 g6
                go_wp2
                go_roundw
                case rel => exact ⟨i + 1, i, by omega, by omega, by omega, rfl, by go_num, below_drewN hBi _, by have := HF.out; rw [if_pos (by omega)] at this; exact this⟩
                case measure => simp [intOf]; omega
              · have hd : decide (S * o1 - T * z1 < S * o2 - T * z2) = false := by simpa using hcmp
                go_wp2
                go_quiet (fail)
                clear g1 g2 g3 g4 g5 g6
                go_wp2
                go_roundw
                case rel => exact ⟨i + 1, b, by omega, by omega, by omega, rfl, by go_num, below_drewN hBi _, by have := HF.out; rw [if_neg (by omega)] at this; exact this⟩
                case measure => simp [intOf]; omega
            · have hbest : bestI S T zs acc = b := by rw [← hF.out, show n - i = 0 by omega]; rfl
              have hbn : b < n := by omega
              have hbl : b < acc.length := by rw [hal.out]; exact hbn
              have ho2 := hones.out.get b hbl
              have hx2 : wr.cell? ⟨g, b, none⟩ = some (.int .i64 (acc.getD b 0)) := by
                rw [hown3.cellAt b (by omega)]
                simp [hbl]
              have hfz := hown3.frozenAt b
              have hst := hown3.stored b (.int .i64 (acc.getD b 0 + 1))
              have HS := Lib.hid hst
              have HBE := Lib.hid hbest
              have hset := hones.out.set b hbl
              have HSET := Lib.hid hset
              clear hF hst hbest hbl hset
              generalize hO2 : acc.getD b 0 = o2 at *
              have HO := Lib.hid hO2; clear hO2
              obtain ⟨ho20, ho21⟩ := ho2
              go_wp2
              go_roundw
              case rel =>
                refine ⟨r + 1, acc.set b (o2 + 1), by omega, by go_num, own_congr HS.out.1 rfl (by simp), below_of_grown hBw HS.out.2 (by omega), by simp [Hid, hal.out], HSET, ?_⟩
                have := HG.out
                rw [HBE.out, HO.out] at this
                exact this
              case measure => simp [intOf]; omega
        · have hlT : ¬ (n : Int) + r < T := by omega
          have hfin : grF S T zs M (List.replicate n 1) = acc := by rw [← hG.out, show M - r = 0 by omega]; rfl
          have HF := Lib.hid hfin
          clear hfin hG hTM
          go_wp2
          go_ret2
          rw [HF.out]
          exact ⟨_, rfl, by rw [hal.out]; exact hown2, hB2⟩

end Go.Proofs.Ytcihombiijjndaa
