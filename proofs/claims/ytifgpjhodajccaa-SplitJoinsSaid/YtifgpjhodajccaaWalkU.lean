/-
  The walk of the reference's Check. Condition: the messages are few and short.
-/
import Derived.Test.YtifgpjhodajccaaWalkS
import Derived.Test.YtifgpjhodajccaaStr
namespace Go.Proofs.Ytifgpjhodajccaa
open Go.RowKit

set_option maxRecDepth 100000 in
set_option maxHeartbeats 8000000 in
theorem check_any (a : Option Addr) (n cap : Nat) (ms : List Msg) (w : World) (h : RdM w a n ms) (hn : n ≤ 1000) (hsh : ShortM ms) :
    Calls Try.prog 29 #[.slice a n cap] w fun e w' => e = .returned (.int .i64 (collF ms).1) ∧ Below w.heap.size w w' := by
  have H := Lib.hid h
  have HL := Lib.hid h.len
  have HS := Lib.hid hsh
  clear h hsh
  by_cases hn0 : n = 0
  · subst hn0
    have hms : ms = [] := List.eq_nil_of_length_eq_zero HL.out
    subst hms
    go_enter Try.func29, Try.ntmps29
    go_wp2_with fail
    go_ret
    exact ⟨rfl, Below.refl _ _⟩
  · have hnz : ((n : Int) == 0) = false := by simp; omega
    go_enter Try.func29, Try.ntmps29
    go_wp2_with fail
    go_loopg [3] n (fun r x wr => ∃ k : Nat, k + r = n ∧ x = .int .i64 k ∧ Below w.heap.size w wr ∧ Hid (∀ m ∈ ms.take k, validF m.2 = true))
    case atStart => exact ⟨0, by omega, rfl, Below.refl _ _, Lib.hid (by simp)⟩
    case round =>
      obtain ⟨k, hk, rfl, hB, hV⟩ := hrel
      by_cases hlt : k < n
      · obtain ⟨b, off, m, rfl, hmk, hmr, hd⟩ := (H.out.below hB).at k hlt
        obtain ⟨⟨sa, sc, c0, hrs⟩, c1, c2, c3⟩ := hmr
        have q0 : (0 : Int) ≤ (k : Int) := by omega
        have q1 : (k : Int) < (n : Int) := by omega
        have hmem : m ∈ ms := List.mem_of_getElem? hmk
        cases hv : validF (m.2.1, m.2.2.1, m.2.2.2) with
        | false =>
          go_wp2_with fail
          refine (header_any _ _ _ _).mono ?_
          rw [hv]
          rintro e w7 ⟨rfl, hb7⟩
          go_wp2_with fail
          go_ret
          have hcf := collF_bad hmem hv
          exact ⟨by rw [hcf]; rfl, below_tr hB hB.size hb7⟩
        | true =>
          go_wp2_with fail
          refine (header_any _ _ _ _).mono ?_
          rw [hv]
          rintro e w7 ⟨rfl, hb7⟩
          go_wp2_with fail
          go_roundg (n - (k + 1))
          case rel =>
            refine ⟨k + 1, by omega, by go_num, below_tr hB hB.size hb7, Lib.hid ?_⟩
            rw [List.take_add_one, hmk]
            intro m' hm'
            rcases List.mem_append.1 hm' with hm' | hm'
            · exact hV.out m' hm'
            · simp at hm'; subst hm'; exact hv
          case measure => omega
      · obtain ⟨ws, hws⟩ : ∃ ws, ws = wr := ⟨_, rfl⟩
        subst hws
        obtain rfl : k = n := by omega
        have hVA : ∀ m ∈ ms, validF m.2 = true := by
          have := hV.out
          rwa [List.take_of_length_le (by rw [HL.out]; exact Nat.le_refl _)] at this
        have HVA := Lib.hid hVA
        clear hV
        obtain ⟨b, off, m0, rfl, hmk0, _, hd0⟩ := (H.out.below hB).at 0 (by omega)
        have hms : ms = m0 :: ms.drop 1 := by simpa using hd0
        have hbad : Conf ms → (collF ms).1 = 34 := fun hc => by
          rw [hms] at hc hVA ⊢
          rcases collF_spec m0 (ms.drop 1) hVA with ⟨L, _, _, _, h4⟩ | ⟨h1, _⟩
          · exact absurd hc h4
          · rw [h1]
        have hgood : ¬ Conf ms → (collF ms).1 = 0 := fun hc => by
          rw [hms] at hc hVA ⊢
          rcases collF_spec m0 (ms.drop 1) hVA with ⟨L, h1, _⟩ | ⟨_, h1⟩
          · rw [h1]
          · exact absurd h1 hc
        have HBAD := Lib.hid hbad
        have HGOOD := Lib.hid hgood
        have hm0 : m0 ∈ ms := List.mem_of_getElem? hmk0
        have HM0 := Lib.hid hm0
        have HK0 := Lib.hid hmk0
        clear hVA hms hbad hgood hd0 hm0 hmk0 hlt
        go_wp2_with fail
        go_loopg [4] k (fun r x wz => ∃ j : Nat, j + r = k ∧ x = .int .i64 j ∧ Below w.heap.size w wz ∧ Hid (∀ m ∈ ms.take j, m.2.2.1 = m0.2.2.1 ∧ m.2.2.2 = m0.2.2.2) ∧ Hid (∀ m ∈ ms.take j, ∀ m' ∈ ms.take j, ¬ (m.2.1 = m'.2.1 ∧ joinS m.1 ≠ joinS m'.1)))
        case atStart => exact ⟨0, by omega, rfl, hB, Lib.hid (by simp), Lib.hid (by simp)⟩
        case round =>
          clear hB
          obtain ⟨j, hj, rfl, hB, hP, hQ⟩ := hrel
          by_cases hlt : j < k
          · obtain ⟨b0, off0, m1, e0, hmk1, hmr1, _⟩ := (H.out.below hB).at 0 (by omega)
            cases e0
            obtain rfl : m1 = m0 := by
              have := HK0.out
              rw [hmk1] at this
              exact Option.some.inj this
            obtain ⟨_, d1, d2, d3⟩ := hmr1
            obtain ⟨b0, off0, m, e0, hmk, hmr, hd⟩ := (H.out.below hB).at j hlt
            cases e0
            obtain ⟨⟨sa, sc, c0, hrs⟩, c1, c2, c3⟩ := hmr
            obtain ⟨ss0, i0, t0, p0⟩ := m1
            obtain ⟨ss, i1, t1, p1⟩ := m
            simp only [Nat.zero_mul, Nat.add_zero] at d1 d2 d3 c0 c1 c2 c3 hrs
            have q0 : (0 : Int) ≤ (j : Int) := by omega
            have q1 : (j : Int) < (k : Int) := by omega
            have q2 : (0 : Int) < (k : Int) := by omega
            have hmem := List.mem_of_getElem? hmk
            have hlb := lt_of_cell c1
            simp only at hlb
            go_wp2_with fail
            go_region
            · have hBW : Below wr.heap.size wr ((wr.alloc (.cells #[.int .i64 i0, .int .i64 t0, .int .i64 p0] 40)).alloc (.cells #[.int .i64 i1, .int .i64 t1, .int .i64 p1] 40)).drew := (((Below.refl _ _).alloc (Nat.le_refl _) _).alloc (by simp) _).drew
              have hb1 : ((wr.alloc (.cells #[.int .i64 i0, .int .i64 t0, .int .i64 p0] 40)).alloc (.cells #[.int .i64 i1, .int .i64 t1, .int .i64 p1] 40)).drew.heap[wr.heap.size]? = some (.cells #[.int .i64 i0, .int .i64 t0, .int .i64 p0] 40 (0, 0)) := (Below.heap_alloc (wr.alloc (.cells #[.int .i64 i0, .int .i64 t0, .int .i64 p0] 40)) _ _ (by simp)).trans (World.alloc_heap_new wr _)
              have hb2 : ((wr.alloc (.cells #[.int .i64 i0, .int .i64 t0, .int .i64 p0] 40)).alloc (.cells #[.int .i64 i1, .int .i64 t1, .int .i64 p1] 40)).drew.heap[wr.heap.size + 1]? = some (.cells #[.int .i64 i1, .int .i64 t1, .int .i64 p1] 40 (0, 0)) := by
                have := World.alloc_heap_new (wr.alloc (.cells #[.int .i64 i0, .int .i64 t0, .int .i64 p0] 40)) (.cells #[.int .i64 i1, .int .i64 t1, .int .i64 p1] 40)
                rw [show (wr.alloc (.cells #[.int .i64 i0, .int .i64 t0, .int .i64 p0] 40)).heap.size = wr.heap.size + 1 by simp] at this
                exact this
              generalize ((wr.alloc (.cells #[.int .i64 i0, .int .i64 t0, .int .i64 p0] 40)).alloc (.cells #[.int .i64 i1, .int .i64 t1, .int .i64 p1] 40)).drew = W' at *
              have y1 := cell_of_blk (j := 1) hb1 _ rfl
              have y2 := cell_of_blk (j := 2) hb1 _ rfl
              have z0 := cell_of_blk (j := 0) hb2 _ rfl
              have z1 := cell_of_blk (j := 1) hb2 _ rfl
              have z2 := cell_of_blk (j := 2) hb2 _ rfl
              have hB' : Below w.heap.size w W' := below_tr hB hB.size hBW
              have hzb : wr.heap.size + 1 < W'.heap.size := (Array.getElem?_eq_some_iff.1 hb2).1
              clear c0 c1 c2 c3 d1 d2 d3 hrs hlb hb1 hb2 hBW hB
              by_cases ht : t0 = t1
              · subst ht
                by_cases hp : p0 = p1
                · subst hp
                  have HMK := Lib.hid hmk
                  clear hmk hmem hd
                  go_wp2_with fail
                  go_loopg [7] j (fun r x wz => ∃ q : Nat, q + r = j ∧ x = .int .i64 q ∧ Below W'.heap.size W' wz ∧ Hid (∀ m' ∈ ms.take q, ¬ (m'.2.1 = i1 ∧ joinS m'.1 ≠ joinS ss)))
                  case atStart => exact ⟨0, by omega, rfl, Below.refl _ _, Lib.hid (by simp)⟩
                  case round =>
                    obtain ⟨wz, hwz⟩ : ∃ wz, wz = wr := ⟨_, rfl⟩
                    subst hwz
                    obtain ⟨q, hq, rfl, hBq, hR⟩ := hrel
                    by_cases hlq : q < j
                    · have hBz : Below w.heap.size w wz := below_tr hB' hB'.size hBq
                      obtain ⟨b0, off0, m, e0, hmk, hmr, _⟩ := (H.out.below hBz).at q (by omega)
                      cases e0
                      obtain ⟨⟨sa, sc, c0, hrs⟩, c1, c2, c3⟩ := hmr
                      obtain ⟨b0, off0, m', e0, hmk', hmr', _⟩ := (H.out.below hBz).at j (by omega)
                      cases e0
                      have em : m' = (ss, i1, t0, p0) := by
                        have := HMK.out
                        rw [hmk'] at this
                        exact Option.some.inj this
                      subst em
                      obtain ⟨⟨sa', sc', c0', hrs'⟩, c1', c2', c3'⟩ := hmr'
                      obtain ⟨ss2, i2, t2, p2⟩ := m
                      simp only at c0 c1 c2 c3 hrs c0' c1' c2' c3' hrs'
                      have z0' := (hBq.cell (p := ⟨wr.heap.size + 1, 0, none⟩) hzb).trans z0
                      have q5 : (0 : Int) ≤ (q : Int) := by omega
                      have q6 : (q : Int) < (j : Int) := by omega
                      have q7 : (q : Int) < (k : Int) := by omega
                      by_cases hi : i2 = i1
                      · subst hi
                        obtain ⟨hl1, hl2, _⟩ := HS.out _ (List.mem_of_getElem? hmk)
                        obtain ⟨hl3, hl4, _⟩ := HS.out _ (List.mem_of_getElem? hmk')
                        have hby1 := (HS.out _ (List.mem_of_getElem? hmk)).2.2
                        have hby2 := (HS.out _ (List.mem_of_getElem? hmk')).2.2
                        simp only at hl1 hl2 hl3 hl4 hby1 hby2
                        have hse := strOf_inj hby1 hby2
                        have hlz : b < wz.heap.size := lt_of_cell c1
                        have hzb2 : wr.heap.size + 1 < wz.heap.size := by have := hBq.size; omega
                        have hS : ∀ w', Below wz.heap.size wz w' → w'.cell? ⟨b, off + q * 4, none⟩ = some (.slice sa ss2.length sc) ∧ w'.cell? ⟨b, off + q * 4 + 1, none⟩ = some (.int .i64 i2) ∧ w'.cell? ⟨b, off + q * 4 + 2, none⟩ = some (.int .i64 t2) ∧ w'.cell? ⟨b, off + q * 4 + 3, none⟩ = some (.int .i64 p2) ∧ w'.cell? ⟨b, off + j * 4, none⟩ = some (.slice sa' ss.length sc') ∧ w'.cell? ⟨b, off + j * 4 + 1, none⟩ = some (.int .i64 i2) ∧ w'.cell? ⟨b, off + j * 4 + 2, none⟩ = some (.int .i64 t0) ∧ w'.cell? ⟨b, off + j * 4 + 3, none⟩ = some (.int .i64 p0) ∧ w'.cell? ⟨wr.heap.size + 1, 0, none⟩ = some (.int .i64 i2) := fun w' hb9 => ⟨(hb9.cell (p := ⟨b, off + q * 4, none⟩) hlz).trans c0, (hb9.cell (p := ⟨b, off + q * 4 + 1, none⟩) hlz).trans c1, (hb9.cell (p := ⟨b, off + q * 4 + 2, none⟩) hlz).trans c2, (hb9.cell (p := ⟨b, off + q * 4 + 3, none⟩) hlz).trans c3, (hb9.cell (p := ⟨b, off + j * 4, none⟩) hlz).trans c0', (hb9.cell (p := ⟨b, off + j * 4 + 1, none⟩) hlz).trans c1', (hb9.cell (p := ⟨b, off + j * 4 + 2, none⟩) hlz).trans c2', (hb9.cell (p := ⟨b, off + j * 4 + 3, none⟩) hlz).trans c3', (hb9.cell (p := ⟨wr.heap.size + 1, 0, none⟩) hzb2).trans z0'⟩
                        have HC1 := Lib.hid (fun W (hW : Below wz.heap.size wz W) => (contents_any sa ss2.length sc ss2 i2 t2 p2 W (hrs.below hW) (by omega) (by omega)).mono (R' := fun e w' => e = .returned (.string (strOfNums (joinS ss2))) ∧ Below wz.heap.size wz w' ∧ w'.cell? ⟨b, off + q * 4, none⟩ = some (.slice sa ss2.length sc) ∧ w'.cell? ⟨b, off + q * 4 + 1, none⟩ = some (.int .i64 i2) ∧ w'.cell? ⟨b, off + q * 4 + 2, none⟩ = some (.int .i64 t2) ∧ w'.cell? ⟨b, off + q * 4 + 3, none⟩ = some (.int .i64 p2) ∧ w'.cell? ⟨b, off + j * 4, none⟩ = some (.slice sa' ss.length sc') ∧ w'.cell? ⟨b, off + j * 4 + 1, none⟩ = some (.int .i64 i2) ∧ w'.cell? ⟨b, off + j * 4 + 2, none⟩ = some (.int .i64 t0) ∧ w'.cell? ⟨b, off + j * 4 + 3, none⟩ = some (.int .i64 p0) ∧ w'.cell? ⟨wr.heap.size + 1, 0, none⟩ = some (.int .i64 i2)) (fun e w' h => ⟨h.1, below_tr hW hW.size h.2, hS _ (below_tr hW hW.size h.2)⟩))
                        have HC2 := Lib.hid (fun W (hW : Below wz.heap.size wz W) => (contents_any sa' ss.length sc' ss i2 t0 p0 W (hrs'.below hW) (by omega) (by omega)).mono (R' := fun e w' => e = .returned (.string (strOfNums (joinS ss))) ∧ Below wz.heap.size wz w' ∧ w'.cell? ⟨b, off + q * 4, none⟩ = some (.slice sa ss2.length sc) ∧ w'.cell? ⟨b, off + q * 4 + 1, none⟩ = some (.int .i64 i2) ∧ w'.cell? ⟨b, off + q * 4 + 2, none⟩ = some (.int .i64 t2) ∧ w'.cell? ⟨b, off + q * 4 + 3, none⟩ = some (.int .i64 p2) ∧ w'.cell? ⟨b, off + j * 4, none⟩ = some (.slice sa' ss.length sc') ∧ w'.cell? ⟨b, off + j * 4 + 1, none⟩ = some (.int .i64 i2) ∧ w'.cell? ⟨b, off + j * 4 + 2, none⟩ = some (.int .i64 t0) ∧ w'.cell? ⟨b, off + j * 4 + 3, none⟩ = some (.int .i64 p0) ∧ w'.cell? ⟨wr.heap.size + 1, 0, none⟩ = some (.int .i64 i2)) (fun e w' h => ⟨h.1, below_tr hW hW.size h.2, hS _ (below_tr hW hW.size h.2)⟩))
                        clear hS
                        by_cases hsame : joinS ss2 = joinS ss
                        · have HR2 : Hid (∀ m' ∈ ms.take (q + 1), ¬ (m'.2.1 = i2 ∧ joinS m'.1 ≠ joinS ss)) := Lib.hid (by
                            rw [List.take_add_one, hmk]
                            intro m' hm'
                            rcases List.mem_append.1 hm' with hm' | hm'
                            · exact hR.out m' hm'
                            · simp at hm'; subst hm'; exact fun h => h.2 hsame)
                          rw [hsame] at HC1
                          clear hR hmk hmk' hse hby1 hby2 hsame hrs hrs'
                          generalize strOfNums (joinS ss) = S at *
                          go_wp2_with fail
                          go_region_held3 (fun w' => w'.cell? ⟨b, off + q * 4, none⟩ = some (.slice sa ss2.length sc) ∧ w'.cell? ⟨b, off + q * 4 + 1, none⟩ = some (.int .i64 i2) ∧ w'.cell? ⟨b, off + q * 4 + 2, none⟩ = some (.int .i64 t2) ∧ w'.cell? ⟨b, off + q * 4 + 3, none⟩ = some (.int .i64 p2) ∧ w'.cell? ⟨b, off + j * 4, none⟩ = some (.slice sa' ss.length sc') ∧ w'.cell? ⟨b, off + j * 4 + 1, none⟩ = some (.int .i64 i2) ∧ w'.cell? ⟨b, off + j * 4 + 2, none⟩ = some (.int .i64 t0) ∧ w'.cell? ⟨b, off + j * 4 + 3, none⟩ = some (.int .i64 p0) ∧ w'.cell? ⟨wr.heap.size + 1, 0, none⟩ = some (.int .i64 i2)) (first | exact hS5 | exact hS6 | go_keep)
                            (first
                            | (go_at_call 27; refine (HC1.out _ (by first | assumption | exact Below.refl _ _ | exact below_drewN (by assumption) _ | exact below_drewN (Below.refl _ _) _)).mono ?_; rintro e w5 ⟨rfl, hb5, hS5⟩)
                            | (go_at_call 27; refine (HC2.out _ (by first | assumption | exact Below.refl _ _ | exact below_drewN (by assumption) _ | exact below_drewN (Below.refl _ _) _)).mono ?_; rintro e w6 ⟨rfl, hb6, hS6⟩))
                          go_wp2_with fail
                          go_roundg (j - (q + 1))
                          case rel => exact ⟨q + 1, by omega, by go_num, below_tr hBq hBq.size (by first | exact hb6 | exact below_drewN hb6 _), HR2⟩
                          case measure => omega
                        · have hno : (collF ms).1 = 34 := HBAD.out ⟨_, List.mem_of_getElem? hmk, _, List.mem_of_getElem? hmk', .inr (.inr ⟨rfl, hsame⟩)⟩
                          have HNO := Lib.hid hno
                          have hd1 : decide (joinS ss2 = joinS ss) = false := by simp [hsame]
                          rw [hd1] at hse
                          have hse2 : ¬ (strOfNums (joinS ss2)).toList = (strOfNums (joinS ss)).toList := by simpa using hse
                          clear hno hR hmk hmk' hby1 hby2 hsame hrs hrs' hd1
                          generalize strOfNums (joinS ss) = S at *
                          generalize strOfNums (joinS ss2) = S2 at *
                          go_wp2_with fail
                          go_region_held3 (fun w' => w'.cell? ⟨b, off + q * 4, none⟩ = some (.slice sa ss2.length sc) ∧ w'.cell? ⟨b, off + q * 4 + 1, none⟩ = some (.int .i64 i2) ∧ w'.cell? ⟨b, off + q * 4 + 2, none⟩ = some (.int .i64 t2) ∧ w'.cell? ⟨b, off + q * 4 + 3, none⟩ = some (.int .i64 p2) ∧ w'.cell? ⟨b, off + j * 4, none⟩ = some (.slice sa' ss.length sc') ∧ w'.cell? ⟨b, off + j * 4 + 1, none⟩ = some (.int .i64 i2) ∧ w'.cell? ⟨b, off + j * 4 + 2, none⟩ = some (.int .i64 t0) ∧ w'.cell? ⟨b, off + j * 4 + 3, none⟩ = some (.int .i64 p0) ∧ w'.cell? ⟨wr.heap.size + 1, 0, none⟩ = some (.int .i64 i2)) (first | exact hS5 | exact hS6 | go_keep)
                            (first
                            | (go_at_call 27; refine (HC1.out _ (by first | assumption | exact Below.refl _ _ | exact below_drewN (by assumption) _ | exact below_drewN (Below.refl _ _) _)).mono ?_; rintro e w5 ⟨rfl, hb5, hS5⟩)
                            | (go_at_call 27; refine (HC2.out _ (by first | assumption | exact Below.refl _ _ | exact below_drewN (by assumption) _ | exact below_drewN (Below.refl _ _) _)).mono ?_; rintro e w6 ⟨rfl, hb6, hS6⟩))
                          go_wp2_with fail
                          go_ret
                          exact ⟨by rw [HNO.out]; rfl, below_tr hBz hBz.size (by first | exact hb6 | exact below_drewN hb6 _)⟩
                      · have hi' : (i2 == i1) = false := by simp [hi]
                        have HR2 : Hid (∀ m' ∈ ms.take (q + 1), ¬ (m'.2.1 = i1 ∧ joinS m'.1 ≠ joinS ss)) := Lib.hid (by
                          rw [List.take_add_one, hmk]
                          intro m' hm'
                          rcases List.mem_append.1 hm' with hm' | hm'
                          · exact hR.out m' hm'
                          · simp at hm'; subst hm'; exact fun h => hi h.1)
                        clear hR hmk hmk'
                        go_wp2_with fail
                        go_quiet (fail)
                        go_wp2_with fail
                        go_roundg (j - (q + 1))
                        case rel => exact ⟨q + 1, by omega, by go_num, below_drewN hBq _, HR2⟩
                        case measure => omega
                    · obtain rfl : q = j := by omega
                      have HP2 : Hid (∀ m ∈ ms.take (q + 1), m.2.2.1 = t0 ∧ m.2.2.2 = p0) := Lib.hid (by
                        rw [List.take_add_one, HMK.out]
                        intro m' hm'
                        rcases List.mem_append.1 hm' with hm' | hm'
                        · exact hP.out m' hm'
                        · simp at hm'; subst hm'; exact ⟨rfl, rfl⟩)
                      have HQ2 : Hid (∀ m ∈ ms.take (q + 1), ∀ m' ∈ ms.take (q + 1), ¬ (m.2.1 = m'.2.1 ∧ joinS m.1 ≠ joinS m'.1)) := Lib.hid (by
                        rw [List.take_add_one, HMK.out]
                        intro m hm m' hm' hc
                        rcases List.mem_append.1 hm with hm | hm
                        · rcases List.mem_append.1 hm' with hm' | hm'
                          · exact hQ.out m hm m' hm' hc
                          · simp at hm'; subst hm'; exact hR.out m hm hc
                        · simp at hm; subst hm
                          rcases List.mem_append.1 hm' with hm' | hm'
                          · exact hR.out m' hm' ⟨hc.1.symm, fun h => hc.2 h.symm⟩
                          · simp at hm'; subst hm'; exact hc.2 rfl)
                      have hBz : Below w.heap.size w wz := below_tr hB' hB'.size hBq
                      clear hP hQ hR
                      go_wp2_with fail
                      go_roundg (k - (q + 1))
                      case rel => exact ⟨q + 1, by omega, by go_num, hBz, HP2, HQ2⟩
                      case measure => omega
                · have hp' : (p0 == p1) = false := by simp [hp]
                  have hp2 : (p0 != p1) = true := by simp [hp]
                  have hno : (collF ms).1 = 34 := HBAD.out ⟨_, HM0.out, _, hmem, .inr (.inl hp)⟩
                  have HNO := Lib.hid hno
                  clear hno
                  go_wp2_with fail
                  go_ret
                  exact ⟨by rw [HNO.out]; rfl, hB'⟩
              · have ht' : (t0 == t1) = false := by simp [ht]
                have ht2 : (t0 != t1) = true := by simp [ht]
                have hno : (collF ms).1 = 34 := HBAD.out ⟨_, HM0.out, _, hmem, .inl ht⟩
                have HNO := Lib.hid hno
                clear hno
                go_wp2_with fail
                go_ret
                exact ⟨by rw [HNO.out]; rfl, hB'⟩
            · have hBW : Below wr.heap.size wr ((wr.alloc (.cells #[.int .i64 i1, .int .i64 t1, .int .i64 p1] 40)).alloc (.cells #[.int .i64 i0, .int .i64 t0, .int .i64 p0] 40)).drew := (((Below.refl _ _).alloc (Nat.le_refl _) _).alloc (by simp) _).drew
              have hb1 : ((wr.alloc (.cells #[.int .i64 i1, .int .i64 t1, .int .i64 p1] 40)).alloc (.cells #[.int .i64 i0, .int .i64 t0, .int .i64 p0] 40)).drew.heap[wr.heap.size]? = some (.cells #[.int .i64 i1, .int .i64 t1, .int .i64 p1] 40 (0, 0)) := (Below.heap_alloc (wr.alloc (.cells #[.int .i64 i1, .int .i64 t1, .int .i64 p1] 40)) _ _ (by simp)).trans (World.alloc_heap_new wr _)
              have hb2 : ((wr.alloc (.cells #[.int .i64 i1, .int .i64 t1, .int .i64 p1] 40)).alloc (.cells #[.int .i64 i0, .int .i64 t0, .int .i64 p0] 40)).drew.heap[wr.heap.size + 1]? = some (.cells #[.int .i64 i0, .int .i64 t0, .int .i64 p0] 40 (0, 0)) := by
                have := World.alloc_heap_new (wr.alloc (.cells #[.int .i64 i1, .int .i64 t1, .int .i64 p1] 40)) (.cells #[.int .i64 i0, .int .i64 t0, .int .i64 p0] 40)
                rw [show (wr.alloc (.cells #[.int .i64 i1, .int .i64 t1, .int .i64 p1] 40)).heap.size = wr.heap.size + 1 by simp] at this
                exact this
              generalize ((wr.alloc (.cells #[.int .i64 i1, .int .i64 t1, .int .i64 p1] 40)).alloc (.cells #[.int .i64 i0, .int .i64 t0, .int .i64 p0] 40)).drew = W' at *
              have y1 := cell_of_blk (j := 1) hb2 _ rfl
              have y2 := cell_of_blk (j := 2) hb2 _ rfl
              have z0 := cell_of_blk (j := 0) hb1 _ rfl
              have z1 := cell_of_blk (j := 1) hb1 _ rfl
              have z2 := cell_of_blk (j := 2) hb1 _ rfl
              have hB' : Below w.heap.size w W' := below_tr hB hB.size hBW
              have hzb : wr.heap.size < W'.heap.size := (Array.getElem?_eq_some_iff.1 hb1).1
              clear c0 c1 c2 c3 d1 d2 d3 hrs hlb hb1 hb2 hBW hB
              by_cases ht : t0 = t1
              · subst ht
                by_cases hp : p0 = p1
                · subst hp
                  have HMK := Lib.hid hmk
                  clear hmk hmem hd
                  go_wp2_with fail
                  go_loopg [7] j (fun r x wz => ∃ q : Nat, q + r = j ∧ x = .int .i64 q ∧ Below W'.heap.size W' wz ∧ Hid (∀ m' ∈ ms.take q, ¬ (m'.2.1 = i1 ∧ joinS m'.1 ≠ joinS ss)))
                  case atStart => exact ⟨0, by omega, rfl, Below.refl _ _, Lib.hid (by simp)⟩
                  case round =>
                    obtain ⟨wz, hwz⟩ : ∃ wz, wz = wr := ⟨_, rfl⟩
                    subst hwz
                    obtain ⟨q, hq, rfl, hBq, hR⟩ := hrel
                    by_cases hlq : q < j
                    · have hBz : Below w.heap.size w wz := below_tr hB' hB'.size hBq
                      obtain ⟨b0, off0, m, e0, hmk, hmr, _⟩ := (H.out.below hBz).at q (by omega)
                      cases e0
                      obtain ⟨⟨sa, sc, c0, hrs⟩, c1, c2, c3⟩ := hmr
                      obtain ⟨b0, off0, m', e0, hmk', hmr', _⟩ := (H.out.below hBz).at j (by omega)
                      cases e0
                      have em : m' = (ss, i1, t0, p0) := by
                        have := HMK.out
                        rw [hmk'] at this
                        exact Option.some.inj this
                      subst em
                      obtain ⟨⟨sa', sc', c0', hrs'⟩, c1', c2', c3'⟩ := hmr'
                      obtain ⟨ss2, i2, t2, p2⟩ := m
                      simp only at c0 c1 c2 c3 hrs c0' c1' c2' c3' hrs'
                      have z0' := (hBq.cell (p := ⟨wr.heap.size, 0, none⟩) hzb).trans z0
                      have q5 : (0 : Int) ≤ (q : Int) := by omega
                      have q6 : (q : Int) < (j : Int) := by omega
                      have q7 : (q : Int) < (k : Int) := by omega
                      by_cases hi : i2 = i1
                      · subst hi
                        obtain ⟨hl1, hl2, _⟩ := HS.out _ (List.mem_of_getElem? hmk)
                        obtain ⟨hl3, hl4, _⟩ := HS.out _ (List.mem_of_getElem? hmk')
                        have hby1 := (HS.out _ (List.mem_of_getElem? hmk)).2.2
                        have hby2 := (HS.out _ (List.mem_of_getElem? hmk')).2.2
                        simp only at hl1 hl2 hl3 hl4 hby1 hby2
                        have hse := strOf_inj hby1 hby2
                        have hlz : b < wz.heap.size := lt_of_cell c1
                        have hzb2 : wr.heap.size < wz.heap.size := by have := hBq.size; omega
                        have hS : ∀ w', Below wz.heap.size wz w' → w'.cell? ⟨b, off + q * 4, none⟩ = some (.slice sa ss2.length sc) ∧ w'.cell? ⟨b, off + q * 4 + 1, none⟩ = some (.int .i64 i2) ∧ w'.cell? ⟨b, off + q * 4 + 2, none⟩ = some (.int .i64 t2) ∧ w'.cell? ⟨b, off + q * 4 + 3, none⟩ = some (.int .i64 p2) ∧ w'.cell? ⟨b, off + j * 4, none⟩ = some (.slice sa' ss.length sc') ∧ w'.cell? ⟨b, off + j * 4 + 1, none⟩ = some (.int .i64 i2) ∧ w'.cell? ⟨b, off + j * 4 + 2, none⟩ = some (.int .i64 t0) ∧ w'.cell? ⟨b, off + j * 4 + 3, none⟩ = some (.int .i64 p0) ∧ w'.cell? ⟨wr.heap.size, 0, none⟩ = some (.int .i64 i2) := fun w' hb9 => ⟨(hb9.cell (p := ⟨b, off + q * 4, none⟩) hlz).trans c0, (hb9.cell (p := ⟨b, off + q * 4 + 1, none⟩) hlz).trans c1, (hb9.cell (p := ⟨b, off + q * 4 + 2, none⟩) hlz).trans c2, (hb9.cell (p := ⟨b, off + q * 4 + 3, none⟩) hlz).trans c3, (hb9.cell (p := ⟨b, off + j * 4, none⟩) hlz).trans c0', (hb9.cell (p := ⟨b, off + j * 4 + 1, none⟩) hlz).trans c1', (hb9.cell (p := ⟨b, off + j * 4 + 2, none⟩) hlz).trans c2', (hb9.cell (p := ⟨b, off + j * 4 + 3, none⟩) hlz).trans c3', (hb9.cell (p := ⟨wr.heap.size, 0, none⟩) hzb2).trans z0'⟩
                        have HC1 := Lib.hid (fun W (hW : Below wz.heap.size wz W) => (contents_any sa ss2.length sc ss2 i2 t2 p2 W (hrs.below hW) (by omega) (by omega)).mono (R' := fun e w' => e = .returned (.string (strOfNums (joinS ss2))) ∧ Below wz.heap.size wz w' ∧ w'.cell? ⟨b, off + q * 4, none⟩ = some (.slice sa ss2.length sc) ∧ w'.cell? ⟨b, off + q * 4 + 1, none⟩ = some (.int .i64 i2) ∧ w'.cell? ⟨b, off + q * 4 + 2, none⟩ = some (.int .i64 t2) ∧ w'.cell? ⟨b, off + q * 4 + 3, none⟩ = some (.int .i64 p2) ∧ w'.cell? ⟨b, off + j * 4, none⟩ = some (.slice sa' ss.length sc') ∧ w'.cell? ⟨b, off + j * 4 + 1, none⟩ = some (.int .i64 i2) ∧ w'.cell? ⟨b, off + j * 4 + 2, none⟩ = some (.int .i64 t0) ∧ w'.cell? ⟨b, off + j * 4 + 3, none⟩ = some (.int .i64 p0) ∧ w'.cell? ⟨wr.heap.size, 0, none⟩ = some (.int .i64 i2)) (fun e w' h => ⟨h.1, below_tr hW hW.size h.2, hS _ (below_tr hW hW.size h.2)⟩))
                        have HC2 := Lib.hid (fun W (hW : Below wz.heap.size wz W) => (contents_any sa' ss.length sc' ss i2 t0 p0 W (hrs'.below hW) (by omega) (by omega)).mono (R' := fun e w' => e = .returned (.string (strOfNums (joinS ss))) ∧ Below wz.heap.size wz w' ∧ w'.cell? ⟨b, off + q * 4, none⟩ = some (.slice sa ss2.length sc) ∧ w'.cell? ⟨b, off + q * 4 + 1, none⟩ = some (.int .i64 i2) ∧ w'.cell? ⟨b, off + q * 4 + 2, none⟩ = some (.int .i64 t2) ∧ w'.cell? ⟨b, off + q * 4 + 3, none⟩ = some (.int .i64 p2) ∧ w'.cell? ⟨b, off + j * 4, none⟩ = some (.slice sa' ss.length sc') ∧ w'.cell? ⟨b, off + j * 4 + 1, none⟩ = some (.int .i64 i2) ∧ w'.cell? ⟨b, off + j * 4 + 2, none⟩ = some (.int .i64 t0) ∧ w'.cell? ⟨b, off + j * 4 + 3, none⟩ = some (.int .i64 p0) ∧ w'.cell? ⟨wr.heap.size, 0, none⟩ = some (.int .i64 i2)) (fun e w' h => ⟨h.1, below_tr hW hW.size h.2, hS _ (below_tr hW hW.size h.2)⟩))
                        clear hS
                        by_cases hsame : joinS ss2 = joinS ss
                        · have HR2 : Hid (∀ m' ∈ ms.take (q + 1), ¬ (m'.2.1 = i2 ∧ joinS m'.1 ≠ joinS ss)) := Lib.hid (by
                            rw [List.take_add_one, hmk]
                            intro m' hm'
                            rcases List.mem_append.1 hm' with hm' | hm'
                            · exact hR.out m' hm'
                            · simp at hm'; subst hm'; exact fun h => h.2 hsame)
                          rw [hsame] at HC1
                          clear hR hmk hmk' hse hby1 hby2 hsame hrs hrs'
                          generalize strOfNums (joinS ss) = S at *
                          go_wp2_with fail
                          go_region_held3 (fun w' => w'.cell? ⟨b, off + q * 4, none⟩ = some (.slice sa ss2.length sc) ∧ w'.cell? ⟨b, off + q * 4 + 1, none⟩ = some (.int .i64 i2) ∧ w'.cell? ⟨b, off + q * 4 + 2, none⟩ = some (.int .i64 t2) ∧ w'.cell? ⟨b, off + q * 4 + 3, none⟩ = some (.int .i64 p2) ∧ w'.cell? ⟨b, off + j * 4, none⟩ = some (.slice sa' ss.length sc') ∧ w'.cell? ⟨b, off + j * 4 + 1, none⟩ = some (.int .i64 i2) ∧ w'.cell? ⟨b, off + j * 4 + 2, none⟩ = some (.int .i64 t0) ∧ w'.cell? ⟨b, off + j * 4 + 3, none⟩ = some (.int .i64 p0) ∧ w'.cell? ⟨wr.heap.size, 0, none⟩ = some (.int .i64 i2)) (first | exact hS5 | exact hS6 | go_keep)
                            (first
                            | (go_at_call 27; refine (HC1.out _ (by first | assumption | exact Below.refl _ _ | exact below_drewN (by assumption) _ | exact below_drewN (Below.refl _ _) _)).mono ?_; rintro e w5 ⟨rfl, hb5, hS5⟩)
                            | (go_at_call 27; refine (HC2.out _ (by first | assumption | exact Below.refl _ _ | exact below_drewN (by assumption) _ | exact below_drewN (Below.refl _ _) _)).mono ?_; rintro e w6 ⟨rfl, hb6, hS6⟩))
                          go_wp2_with fail
                          go_roundg (j - (q + 1))
                          case rel => exact ⟨q + 1, by omega, by go_num, below_tr hBq hBq.size (by first | exact hb6 | exact below_drewN hb6 _), HR2⟩
                          case measure => omega
                        · have hno : (collF ms).1 = 34 := HBAD.out ⟨_, List.mem_of_getElem? hmk, _, List.mem_of_getElem? hmk', .inr (.inr ⟨rfl, hsame⟩)⟩
                          have HNO := Lib.hid hno
                          have hd1 : decide (joinS ss2 = joinS ss) = false := by simp [hsame]
                          rw [hd1] at hse
                          have hse2 : ¬ (strOfNums (joinS ss2)).toList = (strOfNums (joinS ss)).toList := by simpa using hse
                          clear hno hR hmk hmk' hby1 hby2 hsame hrs hrs' hd1
                          generalize strOfNums (joinS ss) = S at *
                          generalize strOfNums (joinS ss2) = S2 at *
                          go_wp2_with fail
                          go_region_held3 (fun w' => w'.cell? ⟨b, off + q * 4, none⟩ = some (.slice sa ss2.length sc) ∧ w'.cell? ⟨b, off + q * 4 + 1, none⟩ = some (.int .i64 i2) ∧ w'.cell? ⟨b, off + q * 4 + 2, none⟩ = some (.int .i64 t2) ∧ w'.cell? ⟨b, off + q * 4 + 3, none⟩ = some (.int .i64 p2) ∧ w'.cell? ⟨b, off + j * 4, none⟩ = some (.slice sa' ss.length sc') ∧ w'.cell? ⟨b, off + j * 4 + 1, none⟩ = some (.int .i64 i2) ∧ w'.cell? ⟨b, off + j * 4 + 2, none⟩ = some (.int .i64 t0) ∧ w'.cell? ⟨b, off + j * 4 + 3, none⟩ = some (.int .i64 p0) ∧ w'.cell? ⟨wr.heap.size, 0, none⟩ = some (.int .i64 i2)) (first | exact hS5 | exact hS6 | go_keep)
                            (first
                            | (go_at_call 27; refine (HC1.out _ (by first | assumption | exact Below.refl _ _ | exact below_drewN (by assumption) _ | exact below_drewN (Below.refl _ _) _)).mono ?_; rintro e w5 ⟨rfl, hb5, hS5⟩)
                            | (go_at_call 27; refine (HC2.out _ (by first | assumption | exact Below.refl _ _ | exact below_drewN (by assumption) _ | exact below_drewN (Below.refl _ _) _)).mono ?_; rintro e w6 ⟨rfl, hb6, hS6⟩))
                          go_wp2_with fail
                          go_ret
                          exact ⟨by rw [HNO.out]; rfl, below_tr hBz hBz.size (by first | exact hb6 | exact below_drewN hb6 _)⟩
                      · have hi' : (i2 == i1) = false := by simp [hi]
                        have HR2 : Hid (∀ m' ∈ ms.take (q + 1), ¬ (m'.2.1 = i1 ∧ joinS m'.1 ≠ joinS ss)) := Lib.hid (by
                          rw [List.take_add_one, hmk]
                          intro m' hm'
                          rcases List.mem_append.1 hm' with hm' | hm'
                          · exact hR.out m' hm'
                          · simp at hm'; subst hm'; exact fun h => hi h.1)
                        clear hR hmk hmk'
                        go_wp2_with fail
                        go_quiet (fail)
                        go_wp2_with fail
                        go_roundg (j - (q + 1))
                        case rel => exact ⟨q + 1, by omega, by go_num, below_drewN hBq _, HR2⟩
                        case measure => omega
                    · obtain rfl : q = j := by omega
                      have HP2 : Hid (∀ m ∈ ms.take (q + 1), m.2.2.1 = t0 ∧ m.2.2.2 = p0) := Lib.hid (by
                        rw [List.take_add_one, HMK.out]
                        intro m' hm'
                        rcases List.mem_append.1 hm' with hm' | hm'
                        · exact hP.out m' hm'
                        · simp at hm'; subst hm'; exact ⟨rfl, rfl⟩)
                      have HQ2 : Hid (∀ m ∈ ms.take (q + 1), ∀ m' ∈ ms.take (q + 1), ¬ (m.2.1 = m'.2.1 ∧ joinS m.1 ≠ joinS m'.1)) := Lib.hid (by
                        rw [List.take_add_one, HMK.out]
                        intro m hm m' hm' hc
                        rcases List.mem_append.1 hm with hm | hm
                        · rcases List.mem_append.1 hm' with hm' | hm'
                          · exact hQ.out m hm m' hm' hc
                          · simp at hm'; subst hm'; exact hR.out m hm hc
                        · simp at hm; subst hm
                          rcases List.mem_append.1 hm' with hm' | hm'
                          · exact hR.out m' hm' ⟨hc.1.symm, fun h => hc.2 h.symm⟩
                          · simp at hm'; subst hm'; exact hc.2 rfl)
                      have hBz : Below w.heap.size w wz := below_tr hB' hB'.size hBq
                      clear hP hQ hR
                      go_wp2_with fail
                      go_roundg (k - (q + 1))
                      case rel => exact ⟨q + 1, by omega, by go_num, hBz, HP2, HQ2⟩
                      case measure => omega
                · have hp' : (p0 == p1) = false := by simp [hp]
                  have hp2 : (p0 != p1) = true := by simp [hp]
                  have hno : (collF ms).1 = 34 := HBAD.out ⟨_, HM0.out, _, hmem, .inr (.inl hp)⟩
                  have HNO := Lib.hid hno
                  clear hno
                  go_wp2_with fail
                  go_ret
                  exact ⟨by rw [HNO.out]; rfl, hB'⟩
              · have ht' : (t0 == t1) = false := by simp [ht]
                have ht2 : (t0 != t1) = true := by simp [ht]
                have hno : (collF ms).1 = 34 := HBAD.out ⟨_, HM0.out, _, hmem, .inl ht⟩
                have HNO := Lib.hid hno
                clear hno
                go_wp2_with fail
                go_ret
                exact ⟨by rw [HNO.out]; rfl, hB'⟩
          · have hno : (collF ms).1 = 0 := by
              refine HGOOD.out ?_
              rintro ⟨m, hm, m', hm', hc⟩
              have hP' := hP.out
              have hQ' := hQ.out
              rw [List.take_of_length_le (by rw [HL.out]; omega)] at hP' hQ'
              have h1 := hP' m hm
              have h2 := hP' m' hm'
              rcases hc with hc | hc | hc
              · exact hc (h1.1.trans h2.1.symm)
              · exact hc (h1.2.trans h2.2.symm)
              · exact hQ' m hm m' hm' hc
            have HNO := Lib.hid hno
            clear hno
            go_wp2_with fail
            go_ret
            exact ⟨by rw [HNO.out]; rfl, hB⟩

end Go.Proofs.Ytifgpjhodajccaa
