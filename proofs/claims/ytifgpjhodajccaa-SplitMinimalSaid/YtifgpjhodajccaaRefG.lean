/-
  The walks of the reference's Smallest and Fits. Condition: the payload has at most 255 bytes.
-/
import Derived.Test.YtifgpjhodajccaaRefE
import Derived.Test.YtifgpjhodajccaaRefF
namespace Go.Proofs.Ytifgpjhodajccaa
open Go.RowKit

/-- The first version of a class. -/
def firstN (c : Nat) : Nat := if c = 0 then 1 else if c = 1 then 10 else if c = 2 then 27 else 41

theorem class_of_first {c v : Nat} (hc : c < 3) (h1 : firstN c ≤ v) (h2 : v < firstN (c + 1)) : classN v = c := by
  rcases (show c = 0 ∨ c = 1 ∨ c = 2 by omega) with rfl | rfl | rfl <;> simp [firstN] at h1 h2 <;> unfold classN <;> (repeat' split) <;> omega

theorem first_le {c : Nat} (hc : c < 3) : 1 ≤ firstN c ∧ firstN c ≤ firstN (c + 1) ∧ firstN (c + 1) ≤ 41 := by
  rcases (show c = 0 ∨ c = 1 ∨ c = 2 by omega) with rfl | rfl | rfl <;> decide

set_option maxRecDepth 100000 in
set_option maxHeartbeats 8000000 in
theorem refSmallest_any (a : Option Addr) (n cap l : Nat) (ex : Int) (bs : List Int) (w : World) (h : RdU w a n bs) (hby : ∀ b ∈ bs, 0 ≤ b ∧ b < 256) (l1 : 1 ≤ l) (l2 : l ≤ 4) (x0 : 0 ≤ ex) (x1 : ex ≤ 1000) (hn : n ≤ 255) (hcap : n ≤ cap) (hcap2 : cap ≤ 9223372036854775807) :
    Calls Try.prog 30 #[.slice a n cap, .int .i64 l, .int .i64 ex] w fun e w' => (∃ sv, e = .returned (.tuple #[.int .i64 (smallF bs l ex 40 1).1, sv, .int .i64 (smallF bs l ex 40 1).2])) ∧ Below w.heap.size w w' := by
  have HL := Lib.hid h.length
  have HB := Lib.hid (fun (cl : Nat) (hc : cl < 3) W (hW : Below w.heap.size w W) => refBest_any a n cap cl bs W (h.below hW) hby hc hn hcap hcap2)
  have HCP := Lib.hid (fun (v : Nat) (h1 : 1 ≤ v) (h2 : v ≤ 40) W => refCap_any v l W h1 h2 l1 l2)
  clear h hby
  have d1 : decide ((l : Int) < 1) = false := by simp; omega
  have d2 : decide (4 < (l : Int)) = false := by simp; omega
  have hnew : (w.alloc (.cells #[.int .i64 1, .int .i64 10, .int .i64 27, .int .i64 41] 3)).heap[w.heap.size]? = some (.cells #[.int .i64 1, .int .i64 10, .int .i64 27, .int .i64 41] 3 (0, 0)) := World.alloc_heap_new w _
  have hB0 : Below w.heap.size w (w.alloc (.cells #[.int .i64 1, .int .i64 10, .int .i64 27, .int .i64 41] 3)) := (Below.refl _ w).alloc (Nat.le_refl _) _
  go_enter Try.func30, Try.ntmps30
  go_wp2_with fail
  generalize w.alloc (.cells #[.int .i64 1, .int .i64 10, .int .i64 27, .int .i64 41] 3) = W0 at *
  have hlt0 : w.heap.size < W0.heap.size := (Array.getElem?_eq_some_iff.1 hnew).1
  go_loopg [10] 3 (fun r x wr => ∃ c : Nat, c + r = 3 ∧ x = .int .i64 c ∧ Hid (smallF bs l ex (41 - firstN c) (firstN c) = smallF bs l ex 40 1) ∧ Below W0.heap.size W0 wr)
  case atStart => exact ⟨0, rfl, rfl, rfl, Below.refl _ _⟩
  case round =>
    obtain ⟨c, hc, rfl, hR, hB⟩ := hrel
    have hBw : Below w.heap.size w wr := hB0.trans (hB.mono hB0.size)
    have hblk : wr.heap[w.heap.size]? = some (.cells #[.int .i64 1, .int .i64 10, .int .i64 27, .int .i64 41] 3 (0, 0)) := (hB.block _ hlt0).trans hnew
    by_cases hlt : c < 3
    · have hbb := bits_bnd hlt bs (by rw [HL.out]; omega)
      have HBc := Lib.hid (HB.out c hlt wr hBw)
      obtain ⟨Bt, hBt⟩ : ∃ Bt, bitsF c bs = Bt := ⟨_, rfl⟩
      rw [hBt] at HBc hbb
      have HBT := Lib.hid hBt
      have q0 : (c : Int) < 3 := by omega
      clear hBt HB
      go_wp2_with fail
      refine HBc.out.mono ?_
      rintro e w6 ⟨sv, rfl, hb6⟩
      have hB6 : Below W0.heap.size W0 w6 := below_tr hB hB.size hb6
      have hblk6 : w6.heap[w.heap.size]? = some (.cells #[.int .i64 1, .int .i64 10, .int .i64 27, .int .i64 41] 3 (0, 0)) := (hB6.block _ hlt0).trans hnew
      clear HBc hB hblk hb6 hBw
      obtain ⟨f1, f2, f3⟩ := first_le hlt
      have hfc : ∀ W : World, W.heap[w.heap.size]? = some (.cells #[.int .i64 1, .int .i64 10, .int .i64 27, .int .i64 41] 3 (0, 0)) → W.cell? ⟨w.heap.size, c, none⟩ = some (.int .i64 (firstN c)) ∧ W.cell? ⟨w.heap.size, c + 1, none⟩ = some (.int .i64 (firstN (c + 1))) := by
        intro W hW
        rcases (show c = 0 ∨ c = 1 ∨ c = 2 by omega) with rfl | rfl | rfl
        · exact ⟨cell_of_blk (j := 0) hW _ rfl, cell_of_blk (j := 1) hW _ rfl⟩
        · exact ⟨cell_of_blk (j := 1) hW _ rfl, cell_of_blk (j := 2) hW _ rfl⟩
        · exact ⟨cell_of_blk (j := 2) hW _ rfl, cell_of_blk (j := 3) hW _ rfl⟩
      have HFC := Lib.hid hfc
      have hcl : Hid (∀ v, firstN c ≤ v → v < firstN (c + 1) → classN v = c) := Lib.hid fun v h1 h2 => class_of_first hlt h1 h2
      have HF2 : ∃ F, Hid (firstN (c + 1) = F) := ⟨_, Lib.hid rfl⟩
      clear hfc
      obtain ⟨F2', HF2⟩ := HF2
      have hFF : F2' = firstN (c + 1) := HF2.out.symm
      rw [← hFF] at f2 f3 hcl
      simp only [← hFF] at HFC
      clear hFF
      obtain ⟨F2, rfl⟩ : ∃ F2, F2 = F2' := ⟨_, rfl⟩
      generalize firstN c = F1 at *
      obtain ⟨z0, _⟩ := HFC.out w6 hblk6
      have q1 : (0 : Int) ≤ (c : Int) := by omega
      have q2 : (c : Int) < 4 := by omega
      go_wp2_with fail
      go_loopg [14] (F2 - F1) (fun r x wz => ∃ v : Nat, v + r = F2 ∧ F1 ≤ v ∧ x = .int .i64 v ∧ Hid (smallF bs l ex (41 - v) v = smallF bs l ex 40 1) ∧ Below W0.heap.size W0 wz)
      case atStart => exact ⟨F1, by omega, Nat.le_refl _, rfl, hR, hB6⟩
      case round =>
        clear hR hB6 hblk6 z0
        obtain ⟨v, hv, hv1, rfl, hR, hB⟩ := hrel
        have hblk : wr.heap[w.heap.size]? = some (.cells #[.int .i64 1, .int .i64 10, .int .i64 27, .int .i64 41] 3 (0, 0)) := (hB.block _ hlt0).trans hnew
        obtain ⟨z1, z2⟩ := HFC.out wr hblk
        have q3 : (0 : Int) ≤ (c : Int) + 1 := by omega
        have q4 : (c : Int) + 1 < 4 := by omega
        have q5 : IntKind.i64.wrap ((c : Int) + 1) = (c : Int) + 1 := IntWalk.i64_in _ (by omega)
        have q6 : ((c : Int) + 1).toNat = c + 1 := by omega
        have hBw : Below w.heap.size w wr := hB0.trans (hB.mono hB0.size)
        by_cases hlv : v < F2
        · have hst : smallF bs l ex (41 - v) v = if ex ≤ 8 * capF v l - bitsF (classN v) bs then ((v : Int), 0) else smallF bs l ex (41 - (v + 1)) (v + 1) := by
            rw [show 41 - v = (41 - (v + 1)) + 1 by omega]; rfl
          rw [hcl.out v hv1 hlv, HBT.out] at hst
          have hcb := cap_bnd v (by omega) l (by omega)
          have HCPv := Lib.hid (HCP.out v (by omega) (by omega))
          obtain ⟨C, hC⟩ : ∃ C, capF v l = C := ⟨_, rfl⟩
          simp only [hC] at HCPv
          rw [hC] at hst hcb
          have HST := Lib.hid hst
          have q7 : decide ((v : Int) < (F2 : Int)) = true := decide_eq_true (by omega)
          clear hst hC
          go_wp2_with fail
          refine (HCPv.out _).mono ?_
          rintro e w7 ⟨rfl, hb7⟩
          have hB7 : Below W0.heap.size W0 w7 := below_tr hB hB.size hb7
          by_cases hfit : ex ≤ 8 * C - Bt
          · have hdf : decide (ex ≤ 8 * C - Bt) = true := by simpa using hfit
            go_wp2_with fail
            refine bodyPost_ret (results_tmp3 rfl _ _ _) rfl ?_
            rw [← hR.out, HST.out, if_pos (by omega)]
            exact ⟨⟨_, rfl⟩, hB0.trans (hB7.mono hB0.size)⟩
          · have hdf : decide (ex ≤ 8 * C - Bt) = false := by simpa using hfit
            go_wp2_with fail
            go_roundg (F2 - (v + 1))
            case rel => exact ⟨v + 1, by omega, by omega, by go_num, by rw [← hR.out, HST.out, if_neg (by omega)]; rfl, hB7⟩
            case measure => omega
        · obtain rfl : v = F2 := by omega
          have q7 : decide ((v : Int) < (v : Int)) = false := decide_eq_false (by omega)
          go_wp2_with fail
          go_roundg (2 - c)
          case rel => exact ⟨c + 1, by omega, by go_num, Lib.hid (by rw [HF2.out]; exact hR.out), hB⟩
          case measure => omega
    · obtain rfl : c = 3 := by omega
      clear HB HCP
      go_wp2_with fail
      refine bodyPost_ret (results_tmp3 rfl _ _ _) rfl ?_
      rw [← hR.out]
      exact ⟨⟨_, rfl⟩, hBw⟩

set_option maxRecDepth 100000 in
set_option maxHeartbeats 4000000 in
theorem ref23Fits_any (a : Option Addr) (n cap ver l : Nat) (ex : Int) (bs : List Int) (w : World) (h : RdU w a n bs) (hby : ∀ b ∈ bs, 0 ≤ b ∧ b < 256) (l1 : 1 ≤ l) (l2 : l ≤ 4) (x0 : 0 ≤ ex) (x1 : ex ≤ 1000) (hn : n ≤ 255) (hcap : n ≤ cap) (hcap2 : cap ≤ 9223372036854775807) :
    Calls Try.prog 19 #[.slice a n cap, .int .i64 ver, .int .i64 l, .int .i64 ex] w fun e w' => e = .returned (.bool (fitsF bs ver l ex)) ∧ Below w.heap.size w w' := by
  have HS := Lib.hid (refSmallest_any a n cap l ex bs w h hby l1 l2 x0 x1 hn hcap hcap2)
  have HF : Hid (fitsF bs ver l ex = (decide ((smallF bs l ex 40 1).2 = 0) && decide ((smallF bs l ex 40 1).1 ≤ ver))) := rfl
  clear h hby
  generalize smallF bs l ex 40 1 = s at *
  obtain ⟨v, er⟩ := s
  simp only at HS HF
  go_enter Try.func19, Try.ntmps19
  go_wp2_with fail
  refine HS.out.mono ?_
  rintro e w5 ⟨⟨sv, rfl⟩, hb5⟩
  by_cases he : er = 0
  · subst he
    go_wp2
    go_ret
    refine ⟨ret_bool ?_, hb5⟩
    rw [HF.out]; simp
  · have hd : (er == 0) = false := by simpa using he
    go_wp2
    go_ret
    refine ⟨ret_bool ?_, hb5⟩
    rw [HF.out]; simp [he]

end Go.Proofs.Ytifgpjhodajccaa
