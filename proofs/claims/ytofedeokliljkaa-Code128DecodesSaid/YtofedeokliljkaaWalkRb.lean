/-
  The walk of Chars of the reference of package code128. Condition: at most 2^40 numbers.
-/
import Derived.Test.YtofedeokliljkaaPlainM
import Derived.Test.YtofedeokliljkaaWalkZb
import Derived.Test.YtofedeokliljkaaPlainK
namespace Go.Proofs.Ytofedeokliljkaa
open Go.RowKit

theorem readF_inv {set s v : Int} {sh g : Bool} {acc a : List Int} (h : readF set sh acc v = some (s, g, a)) (h0 : 0 ≤ set) (h2 : set ≤ 2) (hsh : sh = true → set ≤ 1) (hv0 : 0 ≤ v) : 0 ≤ s ∧ s ≤ 2 ∧ (g = true → s ≤ 1) ∧ a.length ≤ acc.length + 2 := by
  have key : ∀ {x : Int} {y : Bool} {l : List Int}, some (x, y, l) = some (s, g, a) → (0 ≤ x ∧ x ≤ 2 ∧ (y = true → x ≤ 1) ∧ l.length ≤ acc.length + 2) → 0 ≤ s ∧ s ≤ 2 ∧ (g = true → s ≤ 1) ∧ a.length ≤ acc.length + 2 := by
    intro x y l e hh
    simp only [Option.some.injEq, Prod.mk.injEq] at e
    obtain ⟨rfl, rfl, rfl⟩ := e
    exact hh
  unfold readF at h
  cases sh with
  | true =>
    rw [if_pos rfl] at h
    by_cases c1 : 95 < v
    · rw [if_pos c1] at h; cases h
    rw [if_neg c1] at h
    by_cases c2 : v < 64
    · rw [if_pos c2] at h; exact key h ⟨h0, h2, by simp, by simp⟩
    rw [if_neg c2] at h
    by_cases c3 : 1 - set = 0
    · rw [if_pos c3] at h; exact key h ⟨h0, h2, by simp, by simp⟩
    · rw [if_neg c3] at h; exact key h ⟨h0, h2, by simp, by simp⟩
  | false =>
    rw [if_neg (by simp)] at h
    by_cases c0 : 102 < v
    · rw [if_pos c0] at h; cases h
    rw [if_neg c0] at h
    by_cases c1 : v = 102
    · rw [if_pos c1] at h; exact key h ⟨h0, h2, by simp, by simp⟩
    rw [if_neg c1] at h
    by_cases c2 : set = 2 ∧ v ≤ 99
    · rw [if_pos c2] at h; exact key h ⟨h0, h2, by simp, by simp⟩
    rw [if_neg c2] at h
    by_cases c3 : v < 64
    · rw [if_pos c3] at h; exact key h ⟨h0, h2, by simp, by simp⟩
    rw [if_neg c3] at h
    by_cases c4 : v < 96 ∧ set = 0
    · rw [if_pos c4] at h; exact key h ⟨h0, h2, by simp, by simp⟩
    rw [if_neg c4] at h
    by_cases c5 : v < 96
    · rw [if_pos c5] at h; exact key h ⟨h0, h2, by simp, by simp⟩
    rw [if_neg c5] at h
    by_cases c6 : v = 96
    · rw [if_pos c6] at h; exact key h ⟨h0, h2, by simp, by simp⟩
    rw [if_neg c6] at h
    by_cases c7 : v = 97
    · rw [if_pos c7] at h; exact key h ⟨h0, h2, by simp, by simp⟩
    rw [if_neg c7] at h
    by_cases c8 : v = 98
    · rw [if_pos c8] at h; exact key h ⟨h0, h2, fun _ => by omega, by omega⟩
    rw [if_neg c8] at h
    by_cases c9 : v = 99
    · rw [if_pos c9] at h; exact key h ⟨by omega, by omega, by simp, by omega⟩
    rw [if_neg c9] at h
    by_cases c10 : v = 101 - set ∧ set < 2
    · rw [if_pos c10] at h; exact key h ⟨h0, h2, by simp, by simp⟩
    rw [if_neg c10] at h
    exact key h ⟨by omega, by omega, by simp, by omega⟩

theorem set3 {w : World} {b : Nat} {x y z x' y' z' : Value} {t : TypeId} {fr : Nat × Nat} (h : w.heap[b]? = some (.cells #[x, y, z] t fr)) :
    ((w.setCell ⟨b, 0, none⟩ x').setCell ⟨b, 1, none⟩ y').setCell ⟨b, 2, none⟩ z' = w.setRow b #[x', y', z'] := by
  have h1 := setCell_eq_setRow w b 0 _ _ _ x' h
  rw [h1]
  have h2 := setRow_heap w b _ (#[x, y, z].setIfInBounds 0 x') _ _ h
  have h3 := setCell_eq_setRow _ b 1 _ _ _ y' h2
  rw [h3]
  have h4 := setRow_heap _ b _ ((#[x, y, z].setIfInBounds 0 x').setIfInBounds 1 y') _ _ h2
  have h5 := setCell_eq_setRow _ b 2 _ _ _ z' h4
  rw [h5, setRow_setRow, setRow_setRow]
  rfl

theorem size44 : (Try.prog.info? 44).map (·.size) = some 3 := by kernel_rfl
theorem one3b (x : Int) (y : Bool) (a : Option Addr) (n c : Nat) : (#[Value.int .i64 x, .bool y, .slice a n c].all (·.oneCell')) = true := by simp [Value.oneCell']

theorem own_drew {w : World} {B e s n : Nat} {v : Value} {xs : List Value} (h : w.ownsRow B e s v n xs) : w.drew.ownsRow B e s v n xs := h

theorem below_grown {B B' e s n : Nat} {w wr w1 : World} {v : Value} {xs : List Value} (hB : Below B w wr) (hown : wr.ownsRow B' e s v n xs) (h : B ≤ B') (hs : B ≤ wr.heap.size) (hg : wr.grownBy w1 v.ownBlock) : Below B w w1 :=
  below_grow1 hB hown h hs hg

theorem take_ne {l : List Int} {n m : Nat} (h : l.length = n) (hm : 1 ≤ m) (hn : 1 ≤ n) : l.take m ≠ [] := by
  intro e
  have h1 := congrArg List.length e
  simp only [List.length_take, List.length_nil] at h1
  omega

/-- The sum, and the check value. -/
theorem rchk_chkL (l : List Int) (h : l ≠ []) : rchkF 0 0 l = chkL l := by
  cases l with
  | nil => exact absurd rfl h
  | cons v r => exact rchk_eq v r

theorem asOpt_none {p : List Int × Int} (h : asOpt p = none) : p.2 ≠ 0 := by unfold asOpt at h; split at h <;> simp_all
theorem asOpt_some {p : List Int × Int} {xs : List Int} (h : asOpt p = some xs) : p = (xs, 0) := by
  unfold asOpt at h
  split at h
  · rename_i h0; simp at h; obtain ⟨a, b⟩ := p; simp_all
  · simp at h

set_option maxRecDepth 100000 in
set_option maxHeartbeats 8000000 in
theorem refChars_any (a : Option Addr) (n cap : Nat) (vs : List Int) (w : World) (h : RdI w a n vs) (hn : n ≤ 549755813888) :
    Calls Try.prog 12 #[.slice a n cap] w (RetI (charsF vs).1 (charsF vs).2 w) := by
  have hcf : charsF vs = if inV 106 vs = false then ([], 3) else if vs.length < 3 then ([], 7) else if vs.getD 0 0 < 103 ∨ 105 < vs.getD 0 0 then ([], 19)
    else if vs.getD (vs.length - 1) 0 ≠ 106 then ([], 20) else if vs.getD (vs.length - 2) 0 ≠ chkL (vs.take (vs.length - 2)) then ([], 8)
    else intF (vs.getD 0 0 - 101) [] ((vs.take (vs.length - 2)).drop 1) := rfl
  rw [h.length] at hcf
  have H := Lib.hid h; have HL := Lib.hid h.length; have HC := Lib.hid hcf; clear h hcf
  go_enter Try.func12, Try.ntmps12
  go_wp2
  go_loop [5] (fun x => ∃ k : Nat, k ≤ n ∧ x = .int .i64 k ∧ Hid (inV 106 (vs.drop k) = inV 106 vs)) (fun x => n - (intOf x).toNat)
  case atStart => exact ⟨0, by omega, rfl, rfl⟩
  case round =>
    obtain ⟨k, hk, rfl, hR⟩ := hrel
    by_cases hlt : k < n
    · obtain ⟨b, off, y, rfl, hcell, hd⟩ := H.out.at k hlt
      have hr := hR.out
      rw [hd, inV] at hr
      have HR := Lib.hid hr; clear hr hd hR
      by_cases hy : y < 0 ∨ 106 < y
      · have hbad := HC.out
        rw [if_pos (by rw [← HR.out, if_pos hy])] at hbad
        have HB := Lib.hid hbad; clear hbad
        rcases hy with hy | hy
        all_goals
          go_wp2
          go_ret2
          rw [HB.out]
          exact retI_nil _ _ _ (Below.refl _ _)
      · have hd1 : decide (y < 0) = false := by simp; omega
        have hd2 : decide (106 < y) = false := by simp; omega
        go_wp2
        go_round
        case rel => exact ⟨k + 1, by omega, by go_num, by rw [← HR.out, if_neg (by omega)]; rfl⟩
        case measure => simp [intOf]; omega
    · have hall : inV 106 vs = true := by rw [← hR.out, drop_all (by rw [HL.out]; omega)]; rfl
      have hmem := inV_mem hall
      have hc := HC.out
      rw [if_neg (by rw [hall]; simp)] at hc
      have HM := Lib.hid hmem
      clear hall hR HC hmem
      by_cases h3 : n < 3
      · rw [if_pos h3] at hc
        have HC := Lib.hid hc; clear hc
        go_wp2
        go_ret2
        rw [HC.out]
        exact retI_nil _ _ _ (Below.refl _ _)
      rw [if_neg h3] at hc
      obtain ⟨b, off, v0, rfl, hc0, hd0⟩ := H.out.at 0 (by omega)
      have hv0 : vs.getD 0 0 = v0 := by rw [List.getD_eq_getElem?_getD, getElem?_of_drop hd0]; rfl
      rw [Nat.add_zero] at hc0
      obtain ⟨b', off', vl, e', hcl, hdl⟩ := H.out.at (n - 1) (by omega)
      cases e'
      have hvl : vs.getD (n - 1) 0 = vl := by rw [List.getD_eq_getElem?_getD, getElem?_of_drop hdl]; rfl
      obtain ⟨b', off', vc, e', hcc, hdc⟩ := H.out.at (n - 2) (by omega)
      cases e'
      have hvc : vs.getD (n - 2) 0 = vc := by rw [List.getD_eq_getElem?_getD, getElem?_of_drop hdc]; rfl
      rw [hv0, hvl, hvc] at hc
      have hm0 := HM.out v0 (List.mem_of_getElem? (getElem?_of_drop hd0))
      obtain ⟨hm01, hm02⟩ := hm0
      clear hv0 hvl hvc hd0 hdl hdc
      have i1 : ((n : Int) - 1).toNat = n - 1 := by omega
      have i2 : ((n : Int) - 2).toNat = n - 2 := by omega
      have i3 : 0 ≤ (n : Int) - 1 := by omega
      have i4 : (n : Int) - 1 < (n : Int) := by omega
      by_cases c1 : v0 < 103 ∨ 105 < v0
      · rw [if_pos c1] at hc
        have HC := Lib.hid hc; clear hc
        rcases c1 with c1 | c1
        all_goals
          go_wp2
          go_ret2
          rw [HC.out]
          exact retI_nil _ _ _ (Below.refl _ _)
      rw [if_neg c1] at hc
      have hq1 : decide (v0 < 103) = false := by simp; omega
      have hq2 : decide (105 < v0) = false := by simp; omega
      by_cases c2 : vl = 106
      case neg =>
        rw [if_pos c2] at hc
        have hq3 : (vl != 106) = true := by rw [bne_iff_ne]; exact c2
        have HC := Lib.hid hc; clear hc
        go_wp2
        go_ret2
        rw [HC.out]
        exact retI_nil _ _ _ (Below.refl _ _)
      rw [if_neg (by simp [c2])] at hc
      have hq3 : (vl != 106) = false := by simp [c2]
      have C2 := Lib.hid c2; clear c2
      have HC := Lib.hid hc; clear hc
      obtain ⟨m, hm⟩ : ∃ m, n - 2 = m := ⟨_, rfl⟩
      have hmn : (n : Int) - 2 = (m : Int) := by omega
      have hm1 : 1 ≤ m := by omega
      have hm2 : m + 2 = n := by omega
      rw [hm] at HC
      have HMN := Lib.hid hmn
      clear hmn hm
      have hmem2 : ∀ v ∈ vs.take m, 0 ≤ v ∧ v ≤ 106 := fun v hv => HM.out v (List.mem_of_mem_take hv)
      have hrdT := H.out.take m (by omega)
      have HT := Lib.hid hrdT
      have HM2 := Lib.hid hmem2
      clear hmem2 hrdT
      go_wp2
      go_loop [6, 7] (fun x i => ∃ (k : Nat) (s : Int), k ≤ m ∧ i = .int .i64 k ∧ x = .int .i64 s ∧ 0 ≤ s ∧ s < 103 ∧ Hid (rchkF k s ((vs.take m).drop k) = rchkF 0 0 (vs.take m))) (fun _ i => m - (intOf i).toNat)
      case atStart => exact ⟨0, 0, by omega, rfl, rfl, by omega, by omega, rfl⟩
      case round =>
        obtain ⟨k, s, hk, rfl, rfl, hs0, hs1, hS⟩ := hrel
        by_cases hlt : k < m
        · obtain ⟨b', off', y, e', hcell, hd⟩ := HT.out.at k hlt
          cases e'
          have hs := hS.out
          have hy := HM2.out y (List.mem_of_getElem? (getElem?_of_drop hd))
          obtain ⟨hy0, hy1⟩ := hy
          rw [hd, rchkF] at hs
          have HS := Lib.hid hs; clear hs hd hS
          have hmax : (if (1 : Int) < (k : Int) then (k : Int) else 1) = ((max 1 k : Nat) : Int) := by split <;> omega
          obtain ⟨mk, hmk⟩ : ∃ mk : Nat, mk = max 1 k := ⟨_, rfl⟩
          rw [← hmk] at hmax
          have HMK := Lib.hid hmk
          have hmk2 : mk ≤ 1099511627776 := by omega
          clear hmk
          have p1 : 0 ≤ (mk : Int) * y := Int.mul_nonneg (by omega) (by omega)
          have p2 : (mk : Int) * y ≤ 1099511627776 * 200 := Int.mul_le_mul (by omega) (by omega) (by omega) (by omega)
          have hdk : decide ((k : Int) < (n : Int) - 2) = true := by simp; omega
          go_wp2
          go_round
          case rel => exact ⟨k + 1, (s + mk * y) % 103, by omega, by go_num, rfl, by omega, by omega, by rw [← HS.out, HMK.out]; rfl⟩
          case measure => simp [intOf]; omega
        · have hsum : s = chkL (vs.take m) := by
            have := hS.out
            rw [drop_all (by simp; omega)] at this
            rw [← rchk_chkL _ (take_ne HL.out (by omega) (by omega)), ← this]; rfl
          have hdk : decide ((k : Int) < (n : Int) - 2) = false := by simp; omega
          have hc := HC.out
          rw [← hsum] at hc
          clear hS
          have HSU := Lib.hid hsum
          clear hsum HC
          by_cases c3 : vc = s
          case neg =>
            rw [if_pos c3] at hc
            have hq4 : (vc != s) = true := by rw [bne_iff_ne]; exact c3
            have HC := Lib.hid hc; clear hc
            go_wp2
            go_ret2
            rw [HC.out]
            exact retI_nil _ _ _ (Below.refl _ _)
          rw [if_neg (by simp [c3])] at hc
          have hq4 : (vc != s) = false := by simp [c3]
          have C3 := Lib.hid c3; clear c3
          have HC := Lib.hid hc; clear hc
          have hrd := reads_int _ ((vs.take m).drop 1) (Nat.le_refl _) (fun v hv => HM2.out v (List.mem_of_mem_drop hv)) (v0 - 103) [] (by omega) (by omega)
          rw [show v0 - 103 + 2 = v0 - 101 by omega] at hrd
          have HRD := Lib.hid hrd; clear hrd
          obtain ⟨mid, hmid⟩ : ∃ mid, (vs.take m).drop 1 = mid := ⟨_, rfl⟩
          rw [hmid] at HRD HC
          have HMID := Lib.hid hmid
          clear hmid
          have hb0 : (w.alloc (.cells #[.int .i64 (v0 - 103), .bool false, .slice none 0 0] 44)).heap[w.heap.size]? = some (.cells #[.int .i64 (v0 - 103), .bool false, .slice none 0 0] 44 (0, 0)) := World.alloc_heap_new w _
          have hB0 : Below w.heap.size w (w.alloc (.cells #[.int .i64 (v0 - 103), .bool false, .slice none 0 0] 44)) := (Below.refl _ _).alloc (Nat.le_refl _) _
          go_wp2
          go_loopg [9] (m - 1) (fun r x wr => ∃ (i : Nat) (set : Int) (sh : Bool) (ov : Value) (acc : List Int), i + r = m ∧ 1 ≤ i ∧ x = .int .i64 i ∧ wr.heap[w.heap.size]? = some (.cells #[.int .i64 set, .bool sh, ov] 44 (0, 0)) ∧ wr.ownsRow w.heap.size 3 1 ov acc.length (acc.map (Value.int .i64)) ∧ Below w.heap.size w wr ∧ 0 ≤ set ∧ set ≤ 2 ∧ Hid (sh = true → set ≤ 1) ∧ acc.length ≤ 2 * i ∧ Hid (readsF set sh acc ((vs.take m).drop i) = readsF (v0 - 103) false [] mid))
          case atStart => exact ⟨1, v0 - 103, false, .slice none 0 0, [], by omega, by omega, rfl, hb0, World.ownsRow_nil _ _ _ _, hB0, by omega, by omega, Lib.hid (by simp), by simp, Lib.hid (by rw [HMID.out])⟩
          case round =>
            clear hb0 hB0
            obtain ⟨i, set, sh, ov, acc, hi, hi1, rfl, hbox, hown, hBr, hs0', hs2', hsh, hal, hRS⟩ := hrel
            obtain ⟨oa, oc, rfl, _⟩ := own_rd hown
            obtain ⟨x0, x1, x2, _, _, _⟩ := cells3 hbox
            have hbl : w.heap.size < wr.heap.size := (Array.getElem?_eq_some_iff.1 hbox).1
            by_cases him : i < m
            · obtain ⟨b', off', y, e', hcell, hd⟩ := (HT.out.below hBr).at i him
              cases e'
              have hdk2 : decide ((i : Int) < (n : Int) - 2) = true := by simp; omega
              have hin : (i : Int) < (n : Int) := by omega
              have hbb : b < wr.heap.size := lt_of_cell hcell
              have hi0 : 0 ≤ (i : Int) := by omega
              have hy := HM2.out y (List.mem_of_getElem? (getElem?_of_drop hd))
              obtain ⟨hy0, hy1⟩ := hy
              have hrs := hRS.out
              rw [hd] at hrs
              have HRS := Lib.hid hrs
              clear hrs hd hRS
              have hcall := fun W (hW : W.ownsRow w.heap.size 3 1 (.slice oa acc.length oc) acc.length (acc.map (Value.int .i64))) (hs : w.heap.size ≤ W.heap.size) => read_any set y sh _ acc w.heap.size W hW hs (by omega) hs0' hs2' hsh.out hy0 hy1
              have hszA : w.heap.size ≤ wr.drew.heap.size := hBr.size
              have hszB : w.heap.size ≤ (wr.alloc (.cells #[.int .i64 0, .bool false, .slice none 0 0] 44)).drew.heap.size := by have := hBr.size; show _ ≤ (wr.alloc _).heap.size; simp; omega
              have HSA := Lib.hid hszA; have HSB := Lib.hid hszB
              clear hszA hszB
              cases hrf : readF set sh acc y with
              | none =>
                rw [hrf] at hcall
                have HCALL := Lib.hid hcall
                have hfin : charsF vs = ([], 22) := by
                  have h1 := HRS.out
                  rw [reads_none hrf] at h1
                  have h2 := HRD.out
                  rw [← h1] at h2
                  have h3 := asOpt_none h2.symm
                  rw [HC.out]
                  rcases intF_err _ mid (Nat.le_refl _) (v0 - 101) [] with h4 | h4
                  · exact h4
                  · exact absurd h4 h3
                have HFIN := Lib.hid hfin
                clear hcall hfin hrf
                go_wp2_with fail
                go_region_with (first
                | (go_at_call 28; refine (HCALL.out wr.drew (own_drew hown) HSA.out).mono ?_; rintro e w5 ⟨px, py, pa, pn, pc, rfl, hg5⟩; have HG6 : Hid (wr.grownBy w5 (Value.slice oa acc.length oc).ownBlock) := (show wr.grownBy w5 (Value.slice oa acc.length oc).ownBlock from ⟨hg5.os, hg5.tape, hg5.output, hg5.size, hg5.block⟩); have HZZ := True.intro; clear hg5)
                | (go_at_call 28; refine (HCALL.out (wr.alloc (.cells #[.int .i64 0, .bool false, .slice none 0 0] 44)).drew (own_drew (hown.alloc _)) HSB.out).mono ?_; rintro e w5 ⟨px, py, pa, pn, pc, rfl, hg5⟩; have hg7 : (wr.alloc (.cells #[.int .i64 0, .bool false, .slice none 0 0] 44)).grownBy w5 (Value.slice oa acc.length oc).ownBlock := ⟨hg5.os, hg5.tape, hg5.output, hg5.size, hg5.block⟩; have HG6 := Lib.hid (grown_alloc hg7); have hzz := (hg7.block wr.heap.size (by simp) (fun e => own_ge_ne hown (Nat.le_refl _) e.symm)).trans (World.alloc_heap_new wr _); obtain ⟨y0, y1, y2, q0, q1, q2⟩ := cells3 hzz; have HZZ := Lib.hid hzz; clear hg5 hg7 hzz))
                all_goals
                  have hg6 := HG6.out
                  have hBf := below_grown hBr hown (Nat.le_refl _) hBr.size hg6
                  go_wp2
                  go_ret2
                  rw [HFIN.out]
                  first
                    | exact retI_nil _ _ _ (hBf.alloc hBf.size _)
                    | exact retI_nil _ _ _ (((hBf.setCell hBr.size _).setCell hBr.size _).setCell hBr.size _)
              | some q =>
                obtain ⟨s', g', a'⟩ := q
                rw [hrf] at hcall
                have HCALL := Lib.hid hcall
                have hinv := readF_inv hrf hs0' hs2' hsh.out hy0
                obtain ⟨v1, v2, v3, v4⟩ := hinv
                have hrs : readsF s' g' a' ((vs.take m).drop (i + 1)) = readsF (v0 - 103) false [] mid := by rw [← HRS.out, reads_some hrf]
                have HRS2 := Lib.hid hrs
                have V3 := Lib.hid v3
                clear hcall hrf hrs v3
                have hnbox : (Value.slice oa acc.length oc).ownBlock ≠ some w.heap.size := own_type_ne hown hbox (by decide)
                go_upto_region 24 with fail
                go_cut [10, 11] (fun p ok wx => ∃ (tb : Nat) (ta : Option Addr) (tn tc : Nat), p = .pointer (some ⟨tb, 0, none⟩) ∧ ok = .bool true ∧ wx.heap[tb]? = some (.cells #[.int .i64 s', .bool g', .slice ta tn tc] 44 (0, 0)) ∧ wx.ownsRow w.heap.size 3 1 (.slice ta tn tc) a'.length (a'.map (Value.int .i64)) ∧ wx.heap[w.heap.size]? = some (.cells #[.int .i64 set, .bool sh, .slice oa acc.length oc] 44 (0, 0)) ∧ Below w.heap.size w wx ∧ w.heap.size < tb)
                case first =>
                  go_region_with (first
                | (go_at_call 28; refine (HCALL.out wr.drew (own_drew hown) HSA.out).mono ?_; rintro e w5 ⟨ov', rfl, hown5, hg5⟩; have HG6 : Hid (wr.grownBy w5 (Value.slice oa acc.length oc).ownBlock) := (show wr.grownBy w5 (Value.slice oa acc.length oc).ownBlock from ⟨hg5.os, hg5.tape, hg5.output, hg5.size, hg5.block⟩); have HZZ := True.intro; clear hg5; obtain ⟨oa', oc', rfl, _⟩ := own_rd hown5)
                | (go_at_call 28; refine (HCALL.out (wr.alloc (.cells #[.int .i64 0, .bool false, .slice none 0 0] 44)).drew (own_drew (hown.alloc _)) HSB.out).mono ?_; rintro e w5 ⟨ov', rfl, hown5, hg5⟩; have hg7 : (wr.alloc (.cells #[.int .i64 0, .bool false, .slice none 0 0] 44)).grownBy w5 (Value.slice oa acc.length oc).ownBlock := ⟨hg5.os, hg5.tape, hg5.output, hg5.size, hg5.block⟩; have HG6 := Lib.hid (grown_alloc hg7); have hzz := (hg7.block wr.heap.size (by simp) (fun e => own_ge_ne hown (Nat.le_refl _) e.symm)).trans (World.alloc_heap_new wr _); obtain ⟨y0, y1, y2, q0, q1, q2⟩ := cells3 hzz; have HZZ := Lib.hid hzz; clear hg5 hg7 hzz; obtain ⟨oa', oc', rfl, _⟩ := own_rd hown5))
                  all_goals
                    have hg6 := HG6.out
                    have hBf := below_grown hBr hown (Nat.le_refl _) hBr.size hg6
                    have hbox5 := (hg6.block w.heap.size hbl (fun e => hnbox e.symm)).trans hbox
                    go_wp2_with fail
                    go_meet
                    first
                      | (have hzz := HZZ.out; rw [set3 hzz]; exact ⟨wr.heap.size, _, _, _, rfl, rfl, setRow_heap _ _ _ _ _ _ hzz, own_setRow hown5 (own_type_ne hown5 hzz (by decide)) _, (setRow_other _ _ _ _ (by omega)).trans hbox5, below_setRow hBf hBr.size _, hbl⟩)
                      | (have _t : True := HZZ; exact ⟨w5.heap.size, _, _, _, rfl, rfl, World.alloc_heap_new w5 _, hown5.alloc _, (Below.heap_alloc _ _ _ (Array.getElem?_eq_some_iff.1 hbox5).1).trans hbox5, hBf.alloc hBf.size _, (Array.getElem?_eq_some_iff.1 hbox5).1⟩)
                case rest =>
                  obtain ⟨tb, ta, tn, tc, rfl, rfl, htb, hown6, hbox6, hB6, htbl⟩ := hcut
                  obtain ⟨t0, t1, t2, _, _, _⟩ := cells3 htb
                  have h8 : a'.length ≤ 2 * (i + 1) := by omega
                  go_wp2_with (refine wpList_store_row rfl 44 (.tmp 8) (.tmp 94) rfl w.heap.size #[.int .i64 s', .bool g', .slice ta tn tc] rfl rfl 44 _ hbox6 size44 rfl (one3b _ _ _ _ _) ?_)
                  go_roundg (m - (i + 1))
                  case rel => exact ⟨i + 1, s', g', .slice ta tn tc, a', by omega, by omega, by go_num, setRow_heap _ _ _ _ _ _ hbox6, own_setRow hown6 (own_type_ne hown6 hbox6 (by decide)) _, below_setRow hB6 (Nat.le_refl _) _, v1, v2, V3, h8, HRS2⟩
                  case measure => omega
            · have him2 : i = m := by omega
              have hrs := hRS.out
              rw [him2, drop_all (by simp; omega), HRD.out] at hrs
              have hdk2 : decide ((i : Int) < (n : Int) - 2) = false := by simp; omega
              cases sh with
              | true =>
                have hfin : charsF vs = ([], 22) := by
                  have h3 := asOpt_none hrs.symm
                  rw [HC.out]
                  rcases intF_err _ mid (Nat.le_refl _) (v0 - 101) [] with h4 | h4
                  · exact h4
                  · exact absurd h4 h3
                have HFIN := Lib.hid hfin
                clear hrs hfin hRS him2
                go_wp2
                go_ret2
                rw [HFIN.out]
                exact retI_nil _ _ _ hBr
              | false =>
                have hfin : charsF vs = (acc, 0) := by rw [HC.out]; exact asOpt_some hrs.symm
                have HFIN := Lib.hid hfin
                clear hrs hfin hRS him2
                go_wp2
                go_ret2
                rw [HFIN.out]
                exact ⟨_, rfl, hown, hBr⟩

end Go.Proofs.Ytofedeokliljkaa
