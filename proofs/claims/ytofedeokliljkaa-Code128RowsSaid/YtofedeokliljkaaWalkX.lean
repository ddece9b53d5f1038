/-
  The walk of costs of package code128. Condition: at most 5000 characters, each from 0 to 500.
-/
import Derived.Test.YtofedeokliljkaaWalkW
namespace Go.Proofs.Ytofedeokliljkaa
open Go.RowKit Go.Maps

theorem encF_none : encF (fun _ _ => none) = fun _ => none := by
  funext v
  cases v with
  | agg cs =>
    show encL (fun _ _ => none) cs.toList = none
    unfold encL
    split <;> rfl
  | _ => rfl

theorem flatM_at (ms : List Mv) (i : Nat) (m : Mv) (h : ms[i]? = some m) (j : Nat) (hj : j < 3) : (flatM ms)[i * 3 + j]? = m.cells[j]? := by
  induction ms generalizing i with
  | nil => simp at h
  | cons q r ih =>
    cases i with
    | zero =>
      simp at h; subst h
      simp only [flatM, Nat.zero_mul, Nat.zero_add]
      rw [List.getElem?_append_left (by simp [Mv.cells]; omega)]
    | succ i =>
      simp only [flatM]
      rw [List.getElem?_append_right (by simp [Mv.cells]; omega)]
      have := ih i (by simpa using h)
      rw [← this]; congr 1; simp [Mv.cells]; omega

theorem own_not_map {w : World} {B e size n b : Nat} {v : Value} {xs : List Value} {P : Program} {k : TypeId} {f : Value → Option Value} (h : w.ownsRow B e size v n xs) (hm : MapF P k w b f) : v.ownBlock ≠ some b := by
  obtain ⟨es, clock, hb, _⟩ := hm
  rcases h.2 with ⟨rfl, _⟩ | ⟨g, cap, cur, rfl, _, hg, _⟩
  · simp [Value.ownBlock]
  · intro e
    have e' : g = b := by simpa [Value.ownBlock] using e
    rw [e', hb] at hg; cases hg

def RetT (F : Tab) (w : World) (e : Ending) (w' : World) : Prop :=
  ∃ b, e = .returned (.map (some b)) ∧ w.heap.size ≤ b ∧ MapF Try.prog 57 w' b (encF F) ∧ Below w.heap.size w w'

theorem relax_none {a s : Int} {F : Tab} {m : Mv} (h : F m.at_ m.st = none) : relax a s F m = F := by unfold relax; rw [h]
theorem relax_new {a s r : Int} {F : Tab} {m : Mv} (h : F m.at_ m.st = some r) (h2 : F a s = none) : relax a s F m = setF F a s (r + 1) := by unfold relax; rw [h, h2]
theorem relax_less {a s r b : Int} {F : Tab} {m : Mv} (h : F m.at_ m.st = some r) (h2 : F a s = some b) (h3 : r + 1 < b) : relax a s F m = setF F a s (r + 1) := by unfold relax; rw [h, h2]; simp [h3]
theorem relax_more {a s r b : Int} {F : Tab} {m : Mv} (h : F m.at_ m.st = some r) (h2 : F a s = some b) (h3 : ¬ r + 1 < b) : relax a s F m = F := by unfold relax; rw [h, h2]; simp [h3]

theorem tab0_bnd (n : Nat) : Bnd (tab0 n) (60 * ((n : Int) - n)) := by
  intro x y r h
  unfold tab0 setF at h
  repeat' split at h
  all_goals simp at h
  all_goals omega

set_option maxRecDepth 100000 in
set_option maxHeartbeats 8000000 in
theorem costs_any (a : Option Addr) (n cap : Nat) (cs : List Int) (w : World) (h : RdI w a n cs) (hn : n ≤ 5000) (hc : ∀ c ∈ cs, 0 ≤ c ∧ c ≤ 500) :
    Calls Try.prog 37 #[.slice a n cap] w (RetT (costsF cs) w) := by
  have hmm := @run_makeMap Try.prog
  have H := Lib.hid h; have HL := Lib.hid h.length; have HC := Lib.hid hc; clear h hc
  have wn : (Lit.int .i64 (n : Int)).wf = true := WalkArith.wf_i64 (by omega)
  have hmap0 : MapF Try.prog 57 (w.alloc (.map #[] 0)) w.heap.size (encF (fun _ _ => none)) := by rw [encF_none]; exact MapF.new w
  have hB0 : Below w.heap.size w (w.alloc (.map #[] 0)) := (Below.refl _ _).alloc (Nat.le_refl _) _
  go_enter Try.func37, Try.ntmps37
  go_wp2
  refine wp_loop_rounds 4 ?_
  obtain ⟨w1, hrun1, hmap1, hg1⟩ := tab_store hmap0 (n : Int) 2 0 wn (by decide)
  have hB1 := hB0.grown hg1 hB0.size (fun i e => by cases e; exact Nat.le_refl _)
  rw [rounds_succ]
  go_wp2
  clear hrun1 hg1
  obtain ⟨w2, hrun2, hmap2, hg2⟩ := tab_store hmap1 (n : Int) 3 0 wn (by decide)
  have hB2 := hB1.grown hg2 hB1.size (fun i e => by cases e; exact Nat.le_refl _)
  rw [rounds_succ]
  go_wp2
  clear hrun2 hg2
  obtain ⟨w3, hrun3, hmap3, hg3⟩ := tab_store hmap2 (n : Int) 4 0 wn (by decide)
  have hB3 := hB2.grown hg3 hB2.size (fun i e => by cases e; exact Nat.le_refl _)
  rw [rounds_succ]
  go_wp2
  clear hrun3 hg3
  rw [rounds_succ]
  go_wp2
  clear hmap0 hmap1 hmap2 hB0 hB1 hB2 hmm
  go_loopw [5] (fun x wr => ∃ (k : Nat) (F : Tab), k ≤ n ∧ x = .int .i64 ((k : Int) - 1) ∧ MapF Try.prog 57 wr w.heap.size (encF F) ∧ Below w.heap.size w wr ∧ Hid (Bnd F (60 * ((n : Int) - k))) ∧ Hid (stepA cs k F = costsF cs)) (fun x _ => (intOf x + 1).toNat)
  case atStart => exact ⟨n, tab0 n, Nat.le_refl _, rfl, hmap3, hB3, tab0_bnd n, by unfold costsF; rw [HL.out]; rfl⟩
  case round =>
    obtain ⟨k, F, hk, rfl, hmap, hB, hBd, hA⟩ := hrel
    clear hmap3 hB3
    cases k with
    | zero =>
      go_wp2
      go_ret
      have := hA.out
      exact ⟨_, rfl, Nat.le_refl _, by rw [← this]; exact hmap, hB⟩
    | succ k =>
      have hk0 : 0 ≤ (((k + 1 : Nat) : Int) - 1) := by omega
      rw [show (((k + 1 : Nat) : Int) - 1) = (k : Int) by omega] at *
      have hkn : k < n := by omega
      have wk : (Lit.int .i64 (k : Int)).wf = true := WalkArith.wf_i64 (by omega)
      obtain ⟨wo, rfl⟩ : ∃ wo : World, wo = wr := ⟨_, rfl⟩
      go_wp2
      go_loopw [31] (fun x wr => ∃ (r : Nat) (F3 : Tab), r ≤ 2 ∧ x = .int .i64 r ∧ MapF Try.prog 57 wr w.heap.size (encF F3) ∧ Below w.heap.size w wr ∧ Hid (Bnd F3 (60 * ((n : Int) - (k + 1)) + 30 * r)) ∧ Hid (stepR cs k (2 - r) F3 = stepR cs k 2 F)) (fun x _ => 2 - (intOf x).toNat)
      case atStart => exact ⟨0, F, by omega, rfl, hmap, hB, hBd.out.mono (by omega), rfl⟩
      case round =>
        obtain ⟨r, F3, hr2, rfl, hmap3, hB3, hBd3, hR3⟩ := hrel
        by_cases hr : r < 2
        · have hdr : decide ((r : Int) < 2) = true := by simp; omega
          obtain ⟨wo3, rfl⟩ : ∃ wo3 : World, wo3 = wr := ⟨_, rfl⟩
          go_wp2
          go_loopw [33] (fun x wr => ∃ (s : Nat) (F4 : Tab), s ≤ 5 ∧ x = .int .i64 s ∧ MapF Try.prog 57 wr w.heap.size (encF F4) ∧ Below w.heap.size w wr ∧ Hid (Bnd F4 (60 * ((n : Int) - (k + 1)) + 30 * r + 6 * s)) ∧ Hid ((List.range' s (5 - s)).foldl (stepM cs k) F4 = stepS cs k F3)) (fun x _ => 5 - (intOf x).toNat)
          case atStart => exact ⟨0, F3, by omega, rfl, hmap3, hB3, hBd3.out.mono (by omega), rfl⟩
          case round =>
            obtain ⟨s, F4, hs5, rfl, hmap4, hB4, hBd4, hS4⟩ := hrel
            by_cases hs : s < 5
            · have hds : decide ((s : Int) < 5) = true := by simp; omega
              have hs4 := hS4.out
              rw [show 5 - s = (5 - (s + 1)) + 1 by omega, List.range'_succ, List.foldl_cons] at hs4
              have HS4 := Lib.hid hs4; clear hs4 hS4
              have ws : (Lit.int .i64 (s : Int)).wf = true := WalkArith.wf_i64 (by omega)
              have hmv := fun W (hW : Below w.heap.size w W) => moves_any a n cap k (s : Int) cs W (H.out.below hW) hkn (by omega) HC.out (by omega) (by omega)
              have HMV := Lib.hid hmv
              have hml := movesL_length cs k (s : Int)
              have hmm5 := movesL_mem cs k (s : Int) (by omega) (by omega)
              have hst : stepM cs k F4 s = (movesL cs k (s : Int)).foldl (relax k s) F4 := rfl
              have HST := Lib.hid hst
              have HMM := Lib.hid hmm5
              clear hmv hmm5 hst
              generalize movesL cs k (s : Int) = ms at *
              have hBa : Below w.heap.size w (wr.alloc (.cells #[.int .i64 k, .int .i64 s] 57)) := hB4.alloc hB4.size _
              obtain ⟨wo4, rfl⟩ : ∃ wo4 : World, wo4 = wr := ⟨_, rfl⟩
              go_wp2_with fail
              refine (HMV.out _ hBa).mono ?_
              rintro e w5 ⟨mv, rfl, hown, hb5⟩
              have hB5 : Below w.heap.size w w5 := hBa.trans (hb5.mono hBa.size)
              have hmap5 : MapF Try.prog 57 w5 w.heap.size (encF F4) := (hmap4.kept (Below.heap_alloc _ _ _ hmap4.lt)).below hb5
              have hbx : w5.heap[wo4.heap.size]? = some (.cells #[.int .i64 k, .int .i64 s] 57 (0, 0)) := (hb5.block _ (by simp)).trans (World.alloc_heap_new wo4 _)
              have hpbw : w.heap.size < wo4.heap.size := hmap4.lt
              obtain ⟨base, hbase⟩ : ∃ base, base = (wo4.alloc (.cells #[.int .i64 k, .int .i64 s] 57)).heap.size := ⟨_, rfl⟩
              rw [← hbase] at hown
              clear hbase hb5
              obtain ⟨ma, mc, rfl⟩ : ∃ ma mc, mv = .slice ma ms.length mc := by
                rcases hown.2 with ⟨rfl, hz⟩ | ⟨g, cp, cur, rfl, _⟩
                · exact ⟨none, 0, by rw [hz]⟩
                · exact ⟨_, _, rfl⟩
              go_wp2
              go_loopw [43] (fun x wr => ∃ (j : Nat) (F5 : Tab), j ≤ ms.length ∧ x = .int .i64 j ∧ MapF Try.prog 57 wr w.heap.size (encF F5) ∧ Below w.heap.size w wr ∧ wr.ownsRow base 59 3 (.slice ma ms.length mc) ms.length (flatM ms) ∧ wr.heap[wo4.heap.size]? = some (.cells #[.int .i64 k, .int .i64 s] 57 (0, 0)) ∧
                  Hid (Bnd F5 (60 * ((n : Int) - (k + 1)) + 30 * r + 6 * s + j)) ∧ Hid ((ms.drop j).foldl (relax k s) F5 = stepM cs k F4 s)) (fun x _ => ms.length - (intOf x).toNat)
              case atStart => exact ⟨0, F4, by omega, rfl, hmap5, hB5, hown, hbx, hBd4.out.mono (by omega), by rw [HST.out]; rfl⟩
              case round =>
                obtain ⟨j, F5, hj, rfl, hmap6, hB6, hown6, hbx6, hBd6, hF6⟩ := hrel
                clear hmap5 hB5 hown hbx
                by_cases hjl : j < ms.length
                · have hg1 : ∃ g, ma = some ⟨g, 0, none⟩ := by
                    rcases hown6.2 with ⟨e, hz⟩ | ⟨g, cp, cur, e, _⟩
                    · omega
                    · cases e; exact ⟨g, rfl⟩
                  obtain ⟨g, rfl⟩ := hg1
                  obtain ⟨m, hm⟩ : ∃ m, ms[j]? = some m := ⟨ms[j], List.getElem?_eq_getElem hjl⟩
                  have hf6 := hF6.out
                  have hdj : ms.drop j = m :: ms.drop (j + 1) := by
                    rw [List.drop_eq_getElem_cons hjl]
                    rw [List.getElem?_eq_getElem hjl] at hm; cases hm; rfl
                  rw [hdj, List.foldl_cons] at hf6
                  have hcl : ∀ i, i < 3 → wr.cell? ⟨g, j * 3 + i, none⟩ = m.cells[i]? := fun i hi => by
                    rw [hown6.cellAt (j * 3 + i) (by omega)]; exact flatM_at ms j m hm i hi
                  have hc0 := hcl 0 (by omega)
                  have hc1 := hcl 1 (by omega)
                  have hc2 := hcl 2 (by omega)
                  have hmem := HMM.out m (List.mem_of_getElem? hm)
                  obtain ⟨mvv, mat, mst⟩ := m
                  simp [Mv.cells] at hc0 hc1 hc2
                  simp only at hmem
                  obtain ⟨hm1, hm2, hm3, hm4⟩ := hmem
                  have HF6 := Lib.hid hf6
                  clear hf6 hF6 hdj hcl hm
                  have wmat : (Lit.int .i64 mat).wf = true := WalkArith.wf_i64 (by omega)
                  have wmst : (Lit.int .i64 mst).wf = true := WalkArith.wf_i64 (by omega)
                  have hpl : wo4.heap.size < wr.heap.size := (Array.getElem?_eq_some_iff.1 hbx6).1
                  have hmapW : MapF Try.prog 57 (wr.alloc (.cells #[.int .i64 mvv, .int .i64 mat, .int .i64 mst] 59)) w.heap.size (encF F5) := hmap6.kept (Below.heap_alloc _ _ _ hmap6.lt)
                  have l1 := tab_look hmapW mat mst wmat wmst
                  have l2 := tab_look hmapW (k : Int) (s : Int) wk ws
                  have hq0 : (wr.alloc (.cells #[.int .i64 mvv, .int .i64 mat, .int .i64 mst] 59)).cell? ⟨wo4.heap.size, 0, none⟩ = some (.int .i64 k) := by rw [World.cell?_alloc_past _ _ _ hpl]; simp [World.cell?, hbx6]
                  have hq1 : (wr.alloc (.cells #[.int .i64 mvv, .int .i64 mat, .int .i64 mst] 59)).cell? ⟨wo4.heap.size, 1, none⟩ = some (.int .i64 s) := by rw [World.cell?_alloc_past _ _ _ hpl]; simp [World.cell?, hbx6]
                  cases hF1 : F5 mat mst with
                  | none =>
                    rw [hF1] at l1
                    simp only [Option.getD_none, Option.isSome_none] at l1
                    have HR1 : Hid (relax k s F5 ⟨mvv, mat, mst⟩ = F5) := relax_none hF1
                    clear hF1
                    cases hF2 : F5 k s with
                    | none =>
                      rw [hF2] at l2
                      simp only [Option.getD_none, Option.isSome_none] at l2
                      clear hF2
                      go_wp2
                      go_roundw
                      case rel => exact ⟨j + 1, F5, by omega, by go_num, hmapW, hB6.alloc hB6.size _, hown6.alloc _, (Below.heap_alloc _ _ _ hpl).trans hbx6, hBd6.out.mono (by omega), by rw [← HF6.out, HR1.out]; rfl⟩
                      case measure => simp [intOf]; omega
                    | some b2 =>
                      rw [hF2] at l2
                      simp only [Option.getD_some, Option.isSome_some] at l2
                      clear hF2
                      go_wp2
                      go_roundw
                      case rel => exact ⟨j + 1, F5, by omega, by go_num, hmapW, hB6.alloc hB6.size _, hown6.alloc _, (Below.heap_alloc _ _ _ hpl).trans hbx6, hBd6.out.mono (by omega), by rw [← HF6.out, HR1.out]; rfl⟩
                      case measure => simp [intOf]; omega
                  | some r1 =>
                    have hb1 := hBd6.out mat mst r1 hF1
                    obtain ⟨hb10, hb11⟩ := hb1
                    rw [hF1] at l1
                    simp only [Option.getD_some, Option.isSome_some] at l1
                    cases hF2 : F5 k s with
                    | none =>
                      rw [hF2] at l2
                      simp only [Option.getD_none, Option.isSome_none] at l2
                      have HR1 : Hid (relax k s F5 ⟨mvv, mat, mst⟩ = setF F5 k s (r1 + 1)) := relax_new hF1 hF2
                      clear hF1 hF2
                      obtain ⟨w7, hrun7, hmap7, hg7⟩ := tab_store hmapW (k : Int) (s : Int) (r1 + 1) wk ws
                      go_wp2
                      go_roundw
                      case rel => exact ⟨j + 1, setF F5 k s (r1 + 1), by omega, by go_num, hmap7, (hB6.alloc hB6.size _).grown hg7 (by have := hB6.size; simp; omega) (fun i e => by cases e; exact Nat.le_refl _), (hown6.alloc _).kept hg7 (.inr (own_not_map (hown6.alloc _) hmapW)), (hg7.block wo4.heap.size (by simp; omega) (by simp; omega)).trans ((Below.heap_alloc _ _ _ hpl).trans hbx6), (hBd6.out.set (by omega) (by omega)).mono (by omega), by rw [← HF6.out, HR1.out]; rfl⟩
                      case measure => simp [intOf]; omega
                    | some b2 =>
                      rw [hF2] at l2
                      simp only [Option.getD_some, Option.isSome_some] at l2
                      by_cases hlt : r1 + 1 < b2
                      · have HR1 : Hid (relax k s F5 ⟨mvv, mat, mst⟩ = setF F5 k s (r1 + 1)) := relax_less hF1 hF2 hlt
                        have hdl : decide (r1 + 1 < b2) = true := by simpa using hlt
                        clear hF1 hF2
                        obtain ⟨w7, hrun7, hmap7, hg7⟩ := tab_store hmapW (k : Int) (s : Int) (r1 + 1) wk ws
                        go_wp2
                        go_roundw
                        case rel => exact ⟨j + 1, setF F5 k s (r1 + 1), by omega, by go_num, hmap7, (hB6.alloc hB6.size _).grown hg7 (by have := hB6.size; simp; omega) (fun i e => by cases e; exact Nat.le_refl _), (hown6.alloc _).kept hg7 (.inr (own_not_map (hown6.alloc _) hmapW)), (hg7.block wo4.heap.size (by simp; omega) (by simp; omega)).trans ((Below.heap_alloc _ _ _ hpl).trans hbx6), (hBd6.out.set (by omega) (by omega)).mono (by omega), by rw [← HF6.out, HR1.out]; rfl⟩
                        case measure => simp [intOf]; omega
                      · have HR1 : Hid (relax k s F5 ⟨mvv, mat, mst⟩ = F5) := relax_more hF1 hF2 hlt
                        have hdl : decide (r1 + 1 < b2) = false := by simpa using hlt
                        clear hF1 hF2
                        go_wp2
                        go_roundw
                        case rel => exact ⟨j + 1, F5, by omega, by go_num, hmapW, hB6.alloc hB6.size _, hown6.alloc _, (Below.heap_alloc _ _ _ hpl).trans hbx6, hBd6.out.mono (by omega), by rw [← HF6.out, HR1.out]; rfl⟩
                        case measure => simp [intOf]; omega
                · go_wp2
                  go_roundw
                  case rel =>
                    have h1 := hF6.out
                    rw [List.drop_of_length_le (by omega)] at h1
                    have h2 : F5 = stepM cs k F4 s := h1
                    have h3 : Hid ((List.range' (s + 1) (5 - (s + 1))).foldl (stepM cs k) F5 = stepS cs k F3) := by rw [h2]; exact HS4.out
                    clear h1 h2
                    first | exact ⟨s + 1, F5, by omega, by go_num, hmap6, hB6, hBd6.out.mono (by omega), h3⟩ | ((repeat apply Exists.intro); exact ⟨⟨s + 1, F5, by omega, by go_num, hmap6, hB6, hBd6.out.mono (by omega), h3⟩, rfl⟩)
                  case measure => simp [intOf]; omega
            · go_wp2
              go_roundw
              case rel => exact ⟨r + 1, F4, by omega, by go_num, hmap4, hB4, hBd4.out.mono (by omega), by
                have h1 := hS4.out
                rw [show 5 - s = 0 by omega] at h1
                have h2 : F4 = stepS cs k F3 := h1
                rw [h2, ← hR3.out, show 2 - r = (2 - (r + 1)) + 1 by omega]; rfl⟩
              case measure => simp [intOf]; omega
        · go_wp2
          go_roundw
          case rel => exact ⟨k, F3, by omega, by go_num, hmap3, hB3, hBd3.out.mono (by omega), by
            have h1 := hR3.out
            rw [show 2 - r = 0 by omega] at h1
            have h2 : F3 = stepR cs k 2 F := h1
            rw [h2, ← hA.out]; rfl⟩
          case measure => first | (simp [intOf]; done) | (simp [intOf]; omega)

end Go.Proofs.Ytofedeokliljkaa
