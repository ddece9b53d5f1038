/-
  The walk of 'rows' of the reference of package code128. Condition: at most 4096 characters.
-/
import Derived.Test.YtofedeokliljkaaWalkRd
import Derived.Deep.LoopGhost
import Derived.Deep.MidRow
import Derived.Laws.MakeOwn
import Derived.BigRegion
namespace Go.Proofs.Ytofedeokliljkaa
open Go.RowKit

/-- The cells of a block of integers, as a function of the place. -/
structure TabW (w : World) (g M : Nat) (T : Nat → Int) : Prop where
  cell : ∀ o, o < M → w.cell? ⟨g, o, none⟩ = some (.int .i64 (T o))
  froz : ∀ o, w.frozen? ⟨g, o, none⟩ = false

def updT (T : Nat → Int) (o : Nat) (v : Int) : Nat → Int := fun x => if x = o then v else T x

theorem updT_same (T : Nat → Int) (o : Nat) (v : Int) : updT T o v o = v := by simp [updT]
theorem updT_other (T : Nat → Int) (o x : Nat) (v : Int) (h : x ≠ o) : updT T o v x = T x := by simp [updT, h]

theorem TabW.set {w : World} {g M : Nat} {T : Nat → Int} (h : TabW w g M T) {o : Nat} (ho : o < M) (v : Int) : TabW (w.setCell ⟨g, o, none⟩ (.int .i64 v)) g M (updT T o v) := by
  refine ⟨fun x hx => ?_, fun x => ?_⟩
  · by_cases e : x = o
    · subst e; rw [World.cell?_setCell_same _ _ _ (h.cell x hx), updT_same]
    · rw [World.cell?_setCell_other _ _ _ _ (by intro h2; cases h2; exact e rfl), updT_other _ _ _ _ e]; exact h.cell x hx
  · rw [World.frozen?_setCell]; exact h.froz x

theorem TabW.below {w w' : World} {g M : Nat} {T : Nat → Int} (h : TabW w g M T) (hg : g < w.heap.size) (hb : Below w.heap.size w w') : TabW w' g M T :=
  ⟨fun o ho => (hb.cell (p := ⟨g, o, none⟩) hg).trans (h.cell o ho), fun o => by have := h.froz o; simp only [World.frozen?, hb.block g hg] at this ⊢; exact this⟩

/-- A row of the table stands in the cells. -/
def rowOK (T : Nat → Int) (j : Nat) (r : R6) : Prop := T (j * 6) = r.u0 ∧ T (j * 6 + 1) = r.u1 ∧ T (j * 6 + 2) = r.u2 ∧ T (j * 6 + 3) = r.a0 ∧ T (j * 6 + 4) = r.a1 ∧ T (j * 6 + 5) = r.a2

theorem rowOK_upd {T : Nat → Int} {j i q : Nat} {r : R6} (h : rowOK T j r) (hij : i < j) (hq : q < 6) (v : Int) : rowOK (updT T (i * 6 + q) v) j r := by
  obtain ⟨h0, h1, h2, h3, h4, h5⟩ := h
  refine ⟨?_, ?_, ?_, ?_, ?_, ?_⟩ <;> rw [updT_other _ _ _ _ (by omega)] <;> assumption

theorem rowCells_of {w : World} {g M : Nat} {T : Nat → Int} (h : TabW w g M T) {j : Nat} (hj : j * 6 + 6 ≤ M) {r : R6} (hr : rowOK T j r) : RowCells w g (j * 6) r := by
  obtain ⟨h0, h1, h2, h3, h4, h5⟩ := hr
  exact ⟨by rw [h.cell _ (by omega), h0], by rw [h.cell _ (by omega), h1], by rw [h.cell _ (by omega), h2], by rw [h.cell _ (by omega), h3], by rw [h.cell _ (by omega), h4], by rw [h.cell _ (by omega), h5]⟩

theorem cells6 {w : World} {g M : Nat} {T : Nat → Int} (h : TabW w g M T) {j : Nat} (hj : j * 6 + 6 ≤ M) {r : R6} (hr : rowOK T j r) :
    w.cell? ⟨g, j * 6, none⟩ = some (.int .i64 r.u0) ∧ w.cell? ⟨g, j * 6 + 1, none⟩ = some (.int .i64 r.u1) ∧ w.cell? ⟨g, j * 6 + 2, none⟩ = some (.int .i64 r.u2) ∧
    w.cell? ⟨g, j * 6 + 3, none⟩ = some (.int .i64 r.a0) ∧ w.cell? ⟨g, j * 6 + 4, none⟩ = some (.int .i64 r.a1) ∧ w.cell? ⟨g, j * 6 + 5, none⟩ = some (.int .i64 r.a2) := by
  obtain ⟨h0, h1, h2, h3, h4, h5⟩ := hr
  exact ⟨by rw [h.cell _ (by omega), h0], by rw [h.cell _ (by omega), h1], by rw [h.cell _ (by omega), h2], by rw [h.cell _ (by omega), h3], by rw [h.cell _ (by omega), h4], by rw [h.cell _ (by omega), h5]⟩

theorem size67 : (Try.prog.info? 67).map (·.size) = some 6 := by kernel_rfl

theorem used_any (a : Option Addr) (n cap k s : Nat) (cs : List Int) (r q : R6) (w : World) (h : RdI w a n cs) (hk : k < n) (hn : n ≤ 1099511627776) (hs : s < 3) (h0 : bndR r 100000) (h1 : bndR q 100000) :
    Calls Try.prog 49 #[.slice a n cap, .int .i64 k, .int .i64 s, .agg #[.int .i64 r.u0, .int .i64 r.u1, .int .i64 r.u2, .int .i64 r.a0, .int .i64 r.a1, .int .i64 r.a2], .agg #[.int .i64 q.u0, .int .i64 q.u1, .int .i64 q.u2, .int .i64 q.a0, .int .i64 q.a1, .int .i64 q.a2]] w
      fun e w' => e = .returned (.int .i64 (usedF cs k s r.a0 r.a1 r.a2 q.a2)) ∧ Below w.heap.size w w' := by
  unfold bndR at h0 h1
  match s, hs with
  | 0, _ => exact used_0 a n cap k cs _ _ _ _ _ _ _ _ _ _ _ _ w h hk hn (by omega) (by omega)
  | 1, _ => exact used_1 a n cap k cs _ _ _ _ _ _ _ _ _ _ _ _ w h hk hn (by omega) (by omega)
  | 2, _ => exact used_2 a n cap k cs _ _ _ _ _ _ _ _ _ _ _ _ w h hk hn (by omega) (by omega) (by omega) (by omega)

theorem used_le (cs : List Int) (k : Nat) (nx af : R6) (h : bndR nx 100000) (h2 : bndR af 100000) (p : Nat) : 0 ≤ usedF cs k p nx.a0 nx.a1 nx.a2 af.a2 ∧ usedF cs k p nx.a0 nx.a1 nx.a2 af.a2 ≤ 1099511727776 := by
  unfold bndR at h h2
  unfold usedF
  simp only
  repeat' split
  all_goals omega

/-- The least of the first t ways. -/
def mnp (U : Nat → Int) (s : Nat) : Nat → Int
  | 0 => U s
  | t + 1 => min (mnp U s t) (1 + U t)

theorem info67 : ∃ i, Try.prog.info? 67 = some i ∧ i.zero = some (.agg #[.int .i64 0, .int .i64 0, .int .i64 0, .int .i64 0, .int .i64 0, .int .i64 0]) ∧ i.size = 6 ∧ i.bytes = 48 := by
  cases h : Try.prog.info? 67 with
  | none => have := size67; rw [h] at this; cases this
  | some i =>
    have e1 : (Try.prog.info? 67).bind (·.zero) = some (.agg #[.int .i64 0, .int .i64 0, .int .i64 0, .int .i64 0, .int .i64 0, .int .i64 0]) := by kernel_rfl
    have e2 := size67
    have e3 : (Try.prog.info? 67).map (·.bytes) = some 48 := by kernel_rfl
    rw [h] at e1 e2 e3
    exact ⟨i, rfl, by simpa using e1, by simpa using e2, by simpa using e3⟩

theorem made_tab (w : World) (n : Nat) : TabW (w.alloc (.cells (madeCells #[.int .i64 0, .int .i64 0, .int .i64 0, .int .i64 0, .int .i64 0, .int .i64 0] (n * 6)) 67)) w.heap.size (n * 6) (fun _ => 0) := by
  have hh := World.alloc_heap_new w (.cells (madeCells #[.int .i64 0, .int .i64 0, .int .i64 0, .int .i64 0, .int .i64 0, .int .i64 0] (n * 6)) 67)
  refine ⟨fun o ho => ?_, fun o => ?_⟩
  · rw [cell_of_row _ _ _ _ _ _ hh]
    simp only [madeCells, Array.getElem?_map]
    rw [Array.getElem?_eq_getElem (by simpa using ho)]
    simp only [Option.map_some, Array.getElem_range]
    have : o % 6 < 6 := Nat.mod_lt _ (by omega)
    show some (#[Value.int .i64 0, .int .i64 0, .int .i64 0, .int .i64 0, .int .i64 0, .int .i64 0][o % 6]!) = _
    generalize o % 6 = r at *
    match r, this with
    | 0, _ => rfl
    | 1, _ => rfl
    | 2, _ => rfl
    | 3, _ => rfl
    | 4, _ => rfl
    | 5, _ => rfl
  · unfold World.frozen?
    simp only [hh]
    simp

theorem useV_upd {T U : Nat → Int} {i s : Nat} (h : ∀ p, p < s → T (i * 6 + p) = U p) (p : Nat) (hp : p < s + 1) : updT T (i * 6 + s) (U s) (i * 6 + p) = U p := by
  by_cases e : p = s
  · subst e; exact updT_same _ _ _
  · rw [updT_other _ _ _ _ (by omega)]; exact h p (by omega)

/-- The whole table stands. -/
structure RowsW (w : World) (g n : Nat) (cs : List Int) : Prop where
  lt : g < w.heap.size
  row : ∀ j, j < n + 2 → RowCells w g (j * 6) (rowAt cs j)

theorem RowsW.below {w w' : World} {g n : Nat} {cs : List Int} (h : RowsW w g n cs) (hb : Below w.heap.size w w') : RowsW w' g n cs :=
  ⟨Nat.lt_of_lt_of_le h.lt hb.size, fun j hj => by
    obtain ⟨c0, c1, c2, c3, c4, c5⟩ := h.row j hj
    exact ⟨(hb.cell (p := ⟨g, _, none⟩) h.lt).trans c0, (hb.cell (p := ⟨g, _, none⟩) h.lt).trans c1, (hb.cell (p := ⟨g, _, none⟩) h.lt).trans c2, (hb.cell (p := ⟨g, _, none⟩) h.lt).trans c3, (hb.cell (p := ⟨g, _, none⟩) h.lt).trans c4, (hb.cell (p := ⟨g, _, none⟩) h.lt).trans c5⟩⟩

theorem below_set {g : Nat} {w w' : World} (h : Below g w w') (a : Addr) (ha : g ≤ a.block) (v : Value) : Below g w (w'.setCell a v) := h.setCell ha v

theorem mnp3 (U : Nat → Int) (s : Nat) : mnp U s 3 = mn (U s) (U 0) (U 1) (U 2) := rfl

theorem row_done {cs : List Int} {i : Nat} (hi : i < cs.length) {T U : Nat → Int} (hU : ∀ p, U p = usedF cs i p (rowAt cs (i + 1)).a0 (rowAt cs (i + 1)).a1 (rowAt cs (i + 1)).a2 (rowAt cs (i + 2)).a2)
    (h1 : ∀ p, p < 3 → T (i * 6 + p) = U p) (h2 : ∀ p, p < 3 → T (i * 6 + 3 + p) = mnp U p 3) : rowOK T i (rowAt cs i) := by
  rw [rowAt_step cs i hi]
  unfold rowF mkRow
  have e0 := h1 0 (by omega); have e1 := h1 1 (by omega); have e2 := h1 2 (by omega)
  have f0 := h2 0 (by omega); have f1 := h2 1 (by omega); have f2 := h2 2 (by omega)
  rw [mnp3] at f0 f1 f2
  have u0 : U 0 = usedF cs i 0 (rowAt cs (i + 1)).a0 (rowAt cs (i + 1)).a1 (rowAt cs (i + 1)).a2 (rowAt cs (i + 2)).a2 := hU 0
  have u1 : U 1 = usedF cs i 1 (rowAt cs (i + 1)).a0 (rowAt cs (i + 1)).a1 (rowAt cs (i + 1)).a2 (rowAt cs (i + 2)).a2 := hU 1
  have u2 : U 2 = usedF cs i 2 (rowAt cs (i + 1)).a0 (rowAt cs (i + 1)).a1 (rowAt cs (i + 1)).a2 (rowAt cs (i + 2)).a2 := hU 2
  rw [← u0, ← u1, ← u2]
  exact ⟨e0, e1, e2, f0, f1, f2⟩

set_option maxRecDepth 100000 in
set_option maxHeartbeats 8000000 in
theorem rows_any (a : Option Addr) (n cap g : Nat) (cs : List Int) (w : World) (h : RdI w a n cs) (hn : n ≤ 4096) (hG : w.heap.size = g) :
    Calls Try.prog 40 #[.slice a n cap] w fun e w' => e = .returned (.slice (some ⟨g, 0, none⟩) (n + 2) (n + 2)) ∧ RowsW w' g n cs ∧ Below g w w' := by
  have H := Lib.hid h; have HL := Lib.hid h.length; clear h
  obtain ⟨W1, hmk, hT, hB, hg⟩ : ∃ W1, (Instr.makeSlice 63 (.int .i64 ((n : Int) + 2)) (.int .i64 ((n : Int) + 2))).run Try.prog w = .ok (.slice (some ⟨g, 0, none⟩) (n + 2) (n + 2)) W1 ∧ Hid (TabW W1 g ((n + 2) * 6) (fun _ => 0)) ∧ Below g w W1 ∧ g < W1.heap.size := by
    obtain ⟨i, hi, hz, hs, hby⟩ := info67
    have := run_make (P := Try.prog) w 63 67 i _ Try.underlying63 hi hz .i64 .i64 ((n : Int) + 2) ((n : Int) + 2) (by omega) (by omega) (by rw [hby]; omega) (by omega)
    rw [hs, show ((n : Int) + 2).toNat = n + 2 by omega, hG] at this
    have h2 := made_tab w (n + 2)
    rw [hG] at h2
    exact ⟨_, this, h2, (Below.refl _ w).alloc (by omega) _, by simp; omega⟩
  go_enter Try.func40, Try.ntmps40
  go_wp2
  go_loopg [4] n (fun r x wr => ∃ T : Nat → Int, x = .int .i64 ((r : Int) - 1) ∧ r ≤ n ∧ Hid (TabW wr g ((n + 2) * 6) T) ∧ Below g w wr ∧ g < wr.heap.size ∧ Hid (∀ j, r ≤ j → j < n + 2 → rowOK T j (rowAt cs j)))
  case atStart =>
    refine ⟨fun _ => 0, by go_num, Nat.le_refl _, hT, hB, hg, Lib.hid fun j hj _ => ?_⟩
    rw [rowAt_end _ _ (by rw [HL.out]; exact hj)]
    exact ⟨rfl, rfl, rfl, rfl, rfl, rfl⟩
  case round =>
    clear hT hB hg hmk W1
    obtain ⟨T, rfl, hr, hT, hB, hg, hR⟩ := hrel
    cases gk with
    | zero =>
      go_wp2
      go_ret
      exact ⟨rfl, ⟨hg, fun j hj => rowCells_of hT.out (by omega) (hR.out j (by omega) hj)⟩, hB⟩
    | succ i =>
      have hi1 : (((i + 1 : Nat) : Int) - 1) = (i : Int) := by omega
      rw [hi1]
      obtain ⟨U, hU⟩ : ∃ U : Nat → Int, ∀ p, U p = usedF cs i p (rowAt cs (i + 1)).a0 (rowAt cs (i + 1)).a1 (rowAt cs (i + 1)).a2 (rowAt cs (i + 2)).a2 := ⟨_, fun _ => rfl⟩
      have HU := Lib.hid hU; clear hU
      have b1 := rowAt_bnd cs (i + 1)
      have b2 := rowAt_bnd cs (i + 2)
      rw [HL.out] at b1 b2
      have b3 : bndR (rowAt cs (i + 1)) 100000 := by unfold bndR at b1 ⊢; omega
      have b4 : bndR (rowAt cs (i + 2)) 100000 := by unfold bndR at b2 ⊢; omega
      have hUb : Hid (∀ p, p < 3 → 0 ≤ U p ∧ U p ≤ 1099511727776) := Lib.hid fun p _ => by rw [HU.out p]; exact used_le cs i _ _ b3 b4 p
      have hcall : Hid (∀ s : Nat, s < 3 → ∀ W, Below g w W → Calls Try.prog 49 #[.slice a n cap, .int .i64 i, .int .i64 s, .agg #[.int .i64 (rowAt cs (i + 1)).u0, .int .i64 (rowAt cs (i + 1)).u1, .int .i64 (rowAt cs (i + 1)).u2, .int .i64 (rowAt cs (i + 1)).a0, .int .i64 (rowAt cs (i + 1)).a1, .int .i64 (rowAt cs (i + 1)).a2], .agg #[.int .i64 (rowAt cs (i + 2)).u0, .int .i64 (rowAt cs (i + 2)).u1, .int .i64 (rowAt cs (i + 2)).u2, .int .i64 (rowAt cs (i + 2)).a0, .int .i64 (rowAt cs (i + 2)).a1, .int .i64 (rowAt cs (i + 2)).a2]] W
          fun e w' => e = .returned (.int .i64 (U s)) ∧ Below W.heap.size W w') := Lib.hid fun s hs W hW => by
        rw [HU.out s]
        refine used_any a n cap i s cs _ _ W (H.out.below (by rw [hG]; exact hW)) (by omega) (by omega) hs b3 b4
      clear b1 b2 hi1 b3 b4
      have R1 := Lib.hid (fun (T' : Nat → Int) W (h' : TabW W g ((n + 2) * 6) T') (hr' : ∀ j, i + 1 ≤ j → j < n + 2 → rowOK T' j (rowAt cs j)) => cells6 h' (j := i + 1) (by omega) (hr' (i + 1) (by omega) (by omega)))
      have R2 := Lib.hid (fun (T' : Nat → Int) W (h' : TabW W g ((n + 2) * 6) T') (hr' : ∀ j, i + 1 ≤ j → j < n + 2 → rowOK T' j (rowAt cs j)) => cells6 h' (j := i + 2) (by omega) (hr' (i + 2) (by omega) (by omega)))
      obtain ⟨x0, x1, x2, x3, x4, x5, hx⟩ : ∃ x0 x1 x2 x3 x4 x5, rowAt cs (i + 1) = ⟨x0, x1, x2, x3, x4, x5⟩ := ⟨_, _, _, _, _, _, rfl⟩
      obtain ⟨y0, y1, y2, y3, y4, y5, hy⟩ : ∃ y0 y1 y2 y3 y4 y5, rowAt cs (i + 2) = ⟨y0, y1, y2, y3, y4, y5⟩ := ⟨_, _, _, _, _, _, rfl⟩
      have hcl := hcall.out
      have r1 := R1.out
      have r2 := R2.out
      simp only [hx, hy] at hcl
      simp only [hx] at r1
      simp only [hy] at r2
      replace hcall := Lib.hid hcl
      replace R1 := Lib.hid r1
      replace R2 := Lib.hid r2
      clear hcl r1 r2 hx hy
      go_wp2
      go_loopg [5] 3 (fun q x wr => ∃ (s : Nat) (T : Nat → Int), s + q = 3 ∧ x = .int .i64 s ∧ Hid (TabW wr g ((n + 2) * 6) T) ∧ Below g w wr ∧ g < wr.heap.size ∧ Hid (∀ j, i + 1 ≤ j → j < n + 2 → rowOK T j (rowAt cs j)) ∧ Hid (∀ p, p < s → T (i * 6 + p) = U p))
      case atStart => exact ⟨0, T, rfl, rfl, hT, hB, hg, hR, Lib.hid fun p hp => absurd hp (by omega)⟩
      case round =>
        clear hT hB hg hR T
        obtain ⟨s, T, hs, rfl, hT, hB, hg, hR, hV⟩ := hrel
        by_cases hlt : s < 3
        · obtain ⟨l0, l1, l2, l3, l4, l5⟩ := R1.out T wr hT.out hR.out
          obtain ⟨m0, m1, m2, m3, m4, m5⟩ := R2.out T wr hT.out hR.out
          have HC := Lib.hid (hcall.out s hlt wr.drew (below_drewN hB 1))
          have HTG := Lib.hid (And.intro (show TabW wr.drew g ((n + 2) * 6) T from ⟨hT.out.cell, hT.out.froz⟩) (show g < wr.drew.heap.size from hg))
          have q0 : (0 : Int) ≤ (i : Int) + 1 := by omega
          have q1 : (i : Int) + 1 < (n : Int) + 2 := by omega
          have q2 : (0 : Int) ≤ (i : Int) + 2 := by omega
          have q3 : (i : Int) + 2 < (n : Int) + 2 := by omega
          have q4 : (0 : Int) ≤ (i : Int) := by omega
          have q5 : (i : Int) < (n : Int) + 2 := by omega
          have q6 : (0 : Int) ≤ (s : Int) := by omega
          have q7 : (s : Int) < 3 := by omega
          have g1 : IntKind.i64.wrap ((i : Int) + 1) = (i : Int) + 1 := IntWalk.i64_in _ (by omega)
          have g2 : IntKind.i64.wrap ((i : Int) + 2) = (i : Int) + 2 := IntWalk.i64_in _ (by omega)
          have q8 : ((i : Int) + 1).toNat = i + 1 := by omega
          have q9 : ((i : Int) + 2).toNat = i + 2 := by omega
          go_wp2_with fail
          go_region_with (go_at_call 49; refine HC.out.mono ?_; rintro e w5 ⟨rfl, hb5⟩; have hT5 : TabW w5 g ((n + 2) * 6) T := TabW.below HTG.out.1 HTG.out.2 hb5; have k1 := hT5.cell (i * 6 + s) (by omega); have k2 := hT5.froz (i * 6 + s); have HT5 := Lib.hid hT5; clear hT5)
          all_goals
            go_wp2
            go_roundg (2 - s)
            case rel => exact ⟨s + 1, updT T (i * 6 + s) (U s), by omega, by go_num, Lib.hid (HT5.out.set (by omega) _), ((show Below g w wr.drew from below_drewN hB 1).trans (hb5.mono (by simp; omega))).setCell (Nat.le_refl _) _, by have := hb5.size; simp at this ⊢; omega, Lib.hid fun j hj hj2 => rowOK_upd (hR.out j hj hj2) (by omega) (by omega) _, Lib.hid fun p hp => useV_upd hV.out p hp⟩
            case measure => omega
        · have hq : gk = 0 := by omega
          subst hq
          obtain rfl : s = 3 := by omega
          clear hlt R1 R2 hcall
          go_wp2
          go_loopg [6] 3 (fun q x wr => ∃ (s : Nat) (T : Nat → Int), s + q = 3 ∧ x = .int .i64 s ∧ Hid (TabW wr g ((n + 2) * 6) T) ∧ Below g w wr ∧ g < wr.heap.size ∧ Hid (∀ j, i + 1 ≤ j → j < n + 2 → rowOK T j (rowAt cs j)) ∧ Hid (∀ p, p < 3 → T (i * 6 + p) = U p) ∧ Hid (∀ p, p < s → T (i * 6 + 3 + p) = mnp U p 3))
          case atStart => exact ⟨0, T, rfl, rfl, hT, hB, hg, hR, hV, Lib.hid fun p hp => absurd hp (by omega)⟩
          case round =>
            clear hT hB hg hR hV T
            obtain ⟨s, T, hs, rfl, hT, hB, hg, hR, hV, hA⟩ := hrel
            have q4 : (0 : Int) ≤ (i : Int) := by omega
            have q5 : (i : Int) < (n : Int) + 2 := by omega
            by_cases hlt : s < 3
            · have q6 : (0 : Int) ≤ (s : Int) := by omega
              have q7 : (s : Int) < 3 := by omega
              have k1 : wr.cell? ⟨g, i * 6 + s, none⟩ = some (.int .i64 (U s)) := by rw [hT.out.cell _ (by omega), hV.out s hlt]
              have k2 := hT.out.cell (i * 6 + 3 + s) (by omega)
              have k3 := hT.out.froz (i * 6 + 3 + s)
              go_upto_region 12 with fail
              go_cut [56] (fun _ wx => Hid (TabW wx g ((n + 2) * 6) (updT T (i * 6 + 3 + s) (U s))) ∧ Below g w wx ∧ g < wx.heap.size)
              case first =>
                go_region
                all_goals
                  go_wp2_with fail
                  go_meet
                  exact ⟨Lib.hid (TabW.set (w := wr.drew) ⟨hT.out.cell, hT.out.froz⟩ (by omega) _), (below_drewN hB 1).setCell (Nat.le_refl _) _, by simp; omega⟩
              case rest =>
                obtain ⟨hT6, hB6, hg6⟩ := hcut
                have hR6 : Hid (∀ j, i + 1 ≤ j → j < n + 2 → rowOK (updT T (i * 6 + 3 + s) (U s)) j (rowAt cs j)) := Lib.hid fun j hj hj2 => by rw [Nat.add_assoc]; exact rowOK_upd (hR.out j hj hj2) (by omega) (by omega) _
                have hV6 : Hid (∀ p, p < 3 → updT T (i * 6 + 3 + s) (U s) (i * 6 + p) = U p) := Lib.hid fun p hp => by rw [updT_other _ _ _ _ (by omega)]; exact hV.out p hp
                have hA6 : Hid (∀ p, p < s → updT T (i * 6 + 3 + s) (U s) (i * 6 + 3 + p) = mnp U p 3) := Lib.hid fun p hp => by rw [updT_other _ _ _ _ (by omega)]; exact hA.out p hp
                have hM6 : Hid (updT T (i * 6 + 3 + s) (U s) (i * 6 + 3 + s) = mnp U s 0) := Lib.hid (updT_same _ _ _)
                clear hT hB hg hR hV hA k1 k2 k3
                generalize updT T (i * 6 + 3 + s) (U s) = T6 at *
                clear T
                go_wp2_with fail
                go_loopg [7] 3 (fun q x wr => ∃ (t : Nat) (T : Nat → Int), t + q = 3 ∧ x = .int .i64 t ∧ Hid (TabW wr g ((n + 2) * 6) T) ∧ Below g w wr ∧ g < wr.heap.size ∧ Hid (∀ j, i + 1 ≤ j → j < n + 2 → rowOK T j (rowAt cs j)) ∧ Hid (∀ p, p < 3 → T (i * 6 + p) = U p) ∧ Hid (∀ p, p < s → T (i * 6 + 3 + p) = mnp U p 3) ∧ Hid (T (i * 6 + 3 + s) = mnp U s t))
                case atStart => exact ⟨0, T6, rfl, rfl, hT6, hB6, hg6, hR6, hV6, hA6, hM6⟩
                case round =>
                  clear hT6 hB6 hg6 hR6 hV6 hA6 hM6 T6
                  obtain ⟨t, T, ht, rfl, hT, hB, hg, hR, hV, hA, hM⟩ := hrel
                  by_cases htl : t < 3
                  · have q8 : (0 : Int) ≤ (t : Int) := by omega
                    have q9 : (t : Int) < 3 := by omega
                    have k1 : wr.cell? ⟨g, i * 6 + t, none⟩ = some (.int .i64 (U t)) := by rw [hT.out.cell _ (by omega), hV.out t htl]
                    obtain ⟨M, hMM⟩ : ∃ M, mnp U s t = M := ⟨_, rfl⟩
                    have k2 : wr.cell? ⟨g, i * 6 + 3 + s, none⟩ = some (.int .i64 M) := by rw [hT.out.cell (i * 6 + 3 + s) (by omega), hM.out, hMM]
                    have k3 := hT.out.froz (i * 6 + 3 + s)
                    have HMM := Lib.hid hMM
                    have ub := hUb.out t htl
                    obtain ⟨ub0, ub1⟩ := ub
                    have g1 : IntKind.i64.wrap (1 + U t) = 1 + U t := IntWalk.i64_in _ (by omega)
                    clear hMM
                    go_wp2_with fail
                    go_region
                    all_goals
                      generalize hM' : (if 1 + U t < M then 1 + U t else M) = M'
                      go_wp2_with fail
                      go_roundg (2 - t)
                      case rel =>
                        have hset := TabW.set hT.out (o := i * 6 + 3 + s) (by omega) M'
                        refine ⟨t + 1, _, by omega, by go_num, Lib.hid (TabW.mk hset.cell hset.froz), ?_, by simp; omega, Lib.hid fun j hj hj2 => ?_, Lib.hid fun p hp => ?_, Lib.hid fun p hp => ?_, Lib.hid ?_⟩
                        · exact below_drewN (hB.setCell (Nat.le_refl _) _) 1
                        · rw [Nat.add_assoc]; exact rowOK_upd (hR.out j hj hj2) (by omega) (by omega) _
                        · rw [updT_other _ _ _ _ (by omega)]; exact hV.out p hp
                        · rw [updT_other _ _ _ _ (by omega)]; exact hA.out p hp
                        · rw [updT_same, mnp, HMM.out, ← hM']; split <;> omega
                      case measure => omega
                  · obtain rfl : t = 3 := by omega
                    have hq : gk = 0 := by omega
                    subst hq
                    go_wp2_with fail
                    go_roundg (2 - s)
                    case rel =>
                      refine ⟨s + 1, T, by omega, by go_num, hT, hB, hg, hR, hV, Lib.hid fun p hp => ?_⟩
                      by_cases e : p = s
                      · rw [e]; exact hM.out
                      · exact hA.out p (by omega)
                    case measure => omega
            · obtain rfl : s = 3 := by omega
              have hq : gk = 0 := by omega
              subst hq
              go_wp2_with fail
              go_roundg i
              case rel =>
                refine ⟨T, by go_num, by omega, hT, hB, hg, Lib.hid fun j hj hj2 => ?_⟩
                by_cases e : j = i
                · rw [e]; exact row_done (by rw [HL.out]; omega) HU.out hV.out hA.out
                · exact hR.out j (by omega) hj2
              case measure => omega

end Go.Proofs.Ytofedeokliljkaa
