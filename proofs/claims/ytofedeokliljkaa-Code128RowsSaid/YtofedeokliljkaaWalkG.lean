/-
  The walk of runs.Widths, which ranges over the iterator spans. Condition: a slice holds fewer than 2^40 elements.
-/
import Derived.RangeFuncBox
import Derived.RangeFuncLeaves
import Derived.Shelf.Abstract
import Derived.OwnWalkIn
import Derived.TacticsInMore
import Derived.LoopNIn
import Derived.LoopIn
import Derived.Maps.AppendAt
import Derived.Sort.QuietIn
import Derived.Test.YtofedeokliljkaaWalkE
namespace Go.Proofs.Ytofedeokliljkaa
open Go.RowKit Go.Shelf

attribute [local go_sem] Oper.semAt_some

def KeepB (n0 Bn : Nat) (W W' : World) : Prop := Below n0 W W' ∧ ∀ v, Boxed W Bn 32 v → Boxed W' Bn 32 v

theorem grown_drewN (w : World) (k : Nat) : w.grownBy (w.drewN k) none := ⟨rfl, rfl, rfl, Nat.le_refl _, fun _ _ _ => rfl⟩

set_option maxRecDepth 100000 in
set_option maxHeartbeats 2000000 in
theorem spans1_in (n : Nat) (hn : 1 ≤ n) (l Bn : Nat) (a : Option Addr) (len cap : Nat) (bs : List Bool) (w0 : World) (h : RdB w0 a len bs) (hlen : len ≤ 1099511627776) (J Jx : List Int → World → Prop)
    (W : World) (hJ : AbidesFrom W.heap.size J)
    (hY : ∀ pre x W, J pre W → pre.length < (widths bs).length → YieldAt Fence.wide (n - 1) Try.prog l #[.int .i64 x] W fun e W' =>
      (e = .returned (.bool true) ∧ J (pre ++ [x]) W' ∧ KeepB w0.heap.size Bn W W') ∨ (e = .returned (.bool false) ∧ Jx (pre ++ [x]) W'))
    (hW : Below w0.heap.size w0 W) (hBn : Boxed W Bn 32 (.slice a len cap)) (h0 : J [] W) :
    CallsIn Fence.wide n Try.prog 50 #[.func (.yield l) #[] #[], .pointer (some ⟨Bn, 0, none⟩)] W fun e W' => (∃ v, e = .returned v) ∧
      ((∃ ys, ys = widths bs ∧ J ys W') ∨ (∃ pre, True ∧ Jx pre W')) := by
  have hcases := marg_cases bs
  have hlenb := h.length
  have hwd : widths bs = runF 0 ((bs.take (len - (marg bs).2)).drop (marg bs).1) := by unfold widths core; rw [hlenb]
  rw [hlenb] at hcases
  have hmg := margins_any a len cap bs W (h.below hW)
  have hc := hBn.cell
  generalize (marg bs).1 = lf at *
  generalize (marg bs).2 = rg at *
  refine callsIn_of_wp Try.func50 rfl trivial ?_ rfl
  simp only [Try.ntmps50, List.size_toArray, List.length_cons, List.length_nil, Nat.reduceAdd, Nat.reduceSub, Array.replicate_succ, Array.replicate_zero, List.push_toArray, List.append_toArray, List.nil_append, List.cons_append]
  have HWD := Lib.hid hwd; have HJ := Lib.hid hJ; have HY := Lib.hid hY; have HH := Lib.hid h; have HL := Lib.hid hlenb; have HM := Lib.hid hmg
  clear hwd hJ hY h hlenb hmg
  rcases hcases with ⟨e1, e2⟩ | hlr
  · subst e1
    have hbt : ((lf : Int) == (lf : Int)) = true := beq_self_eq_true _
    gi_wp2_with (refine ⟨trivial, ?_⟩; gi_at_call 31; refine (callsIn_wide.2 HM.out).mono ?_; rintro e w' ⟨rfl, rfl⟩)
    refine bodyPost_ret (results_none rfl _ _ _) rfl ?_
    exact ⟨⟨_, rfl⟩, .inl ⟨[], by rw [HWD.out, List.drop_of_length_le (by have := HL.out; simp; omega)]; rfl, h0⟩⟩
  · obtain ⟨E, hE⟩ : ∃ E, E = len - rg := ⟨_, rfl⟩
    have hEn : E ≤ len := by omega
    have hEr : (len : Int) - (rg : Int) = (E : Int) := by omega
    have hlE : lf < E := by omega
    have hbt : ((lf : Int) == (len : Int)) = false := beq_eq_false_iff_ne.2 (by omega)
    have H := Lib.hid (HH.out.take E hEn)
    have hw := HWD.out
    rw [← hE] at hw
    generalize bs.take E = ts at *
    have HW := Lib.hid hw
    have HLT := Lib.hid H.out.length
    clear hw HWD hE
    have HER := Lib.hid hEr; clear hEr
    gi_wp2_with (refine ⟨trivial, ?_⟩; gi_at_call 31; refine (callsIn_wide.2 HM.out).mono ?_; rintro e w' ⟨rfl, rfl⟩)
    clear HM
    gi_loopw [6, 7] (fun s i wr => ∃ (st j : Nat) (pre : List Int), lf ≤ st ∧ (j < E → st ≤ j) ∧ st ≤ j + 1 ∧ j ≤ E ∧ i = .int .i64 (j + 1) ∧ s = .int .i64 st ∧ J pre wr ∧ Below w0.heap.size w0 wr ∧ Boxed wr Bn 32 (.slice a len cap) ∧
        Hid (j < E → ts[st]? = ts[j]? ∧ pre ++ runF (j - st) (ts.drop j) = widths bs) ∧ Hid (j = E → pre = widths bs)) (fun _ i _ => E + 1 - (intOf i).toNat)
    case atStart => exact ⟨lf, lf, [], Nat.le_refl _, fun _ => Nat.le_refl _, by omega, by omega, rfl, rfl, h0, hW, hBn, fun _ => ⟨rfl, by rw [HW.out, Nat.sub_self]; rfl⟩, fun e => by omega⟩
    case round =>
      obtain ⟨st, j, pre, hst, hsj, hsj1, hjE, rfl, rfl, hJs, hB, hBx, hR, hF⟩ := hrel
      have hcx := hBx.cell
      have hEr := HER.out
      by_cases hjlt : j < E
      · obtain ⟨hrow, hrun⟩ := hR.out hjlt
        have hsj' := hsj hjlt
        obtain ⟨b, off, x, rfl, hcj, hdj⟩ := (H.out.below hB).at j hjlt
        obtain ⟨b2, off2, x2, e2, hcs, hds⟩ := (H.out.below hB).at st (by omega)
        cases e2
        have hx2 : x2 = x := by
          rw [getElem?_of_drop hds, getElem?_of_drop hdj] at hrow; simpa using hrow
        subst hx2
        rw [hdj] at hrun
        have hle1 : (j : Int) + 1 ≤ (len : Int) - (rg : Int) := by omega
        have hst0 : st < len := by omega
        have HST : Hid (ts[st]? = some x2) := getElem?_of_drop hds
        clear hR hF hsj hrow hds
        by_cases hl : j + 1 < E
        · obtain ⟨b3, off3, y, e3, hcy, hdy⟩ := (H.out.below hB).at (j + 1) hl
          cases e3
          have hg : decide ((j : Int) + 1 < (len : Int) - (rg : Int)) = true := by simp; omega
          have hj1 : (j : Int) + 1 < (len : Int) := by omega
          rw [hdy, runF, ← hdy] at hrun
          by_cases hy : x2 = y
          · subst hy
            rw [if_pos rfl] at hrun
            have HRUN := Lib.hid hrun; have HDY := Lib.hid hdy
            clear hrun hdy hEr hdj
            gi_wp2
            gi_quiet (fail)
            gi_wp2
            go_roundw
            case rel => exact ⟨st, j + 1, pre, hst, fun _ => by omega, by omega, by omega, by go_num, rfl, HJ.out _ _ _ none hJs (grown_drewN _ _) (fun _ e => by cases e), below_drewN hB _, hBx, fun _ => ⟨by rw [getElem?_of_drop HDY.out]; exact HST.out, by rw [show j + 1 - st = j - st + 1 by omega]; exact HRUN.out⟩, fun e => by omega⟩
            case measure => simp [intOf]; omega
          · rw [if_neg hy] at hrun
            have hN : pre.length < (widths bs).length := by rw [← hrun]; simp
            have hyb : (y == x2) = false := by cases x2 <;> cases y <;> simp_all
            have HRUN := Lib.hid hrun; have HN := Lib.hid hN
            clear hrun hdy hEr hdj hy hN
            gi_wp2
            gi_quiet (fail)
            obtain ⟨fn, tmps, assign, body, hy, hYR⟩ := HY.out pre ((j : Int) + 1 - (st : Int)) (wr.drewN nq) (HJ.out _ _ _ none hJs (grown_drewN _ _) (fun _ e => by cases e)) HN.out
            gi_wp2
            refine hYR.mono ?_
            rintro e W3 (⟨rfl, hJ3, hk3⟩ | ⟨rfl, hJx3⟩)
            · have hB3 : Below w0.heap.size w0 W3 := (below_drewN hB nq).trans hk3.1
              have hBx3 := hk3.2 _ (show Boxed (wr.drewN nq) Bn 32 _ from hBx)
              gi_wp2
              go_roundw
              case rel => exact ⟨j + 1, j + 1, pre ++ [(j : Int) + 1 - (st : Int)], by omega, fun _ => Nat.le_refl _, by omega, by omega, by go_num, by go_num, hJ3, hB3, hBx3, fun _ => ⟨rfl, by rw [← HRUN.out, Nat.sub_self, show (j : Int) + 1 - (st : Int) = ((j - st : Nat) : Int) + 1 by omega]; simp⟩, fun e => by omega⟩
              case measure => simp [intOf]; omega
            · gi_wp2
              refine bodyPost_ret (results_none rfl _ _ _) rfl ?_
              exact ⟨⟨_, rfl⟩, .inr ⟨_, trivial, hJx3⟩⟩
        · have hg : decide ((j : Int) + 1 < (len : Int) - (rg : Int)) = false := by simp; omega
          have hjE1 : j + 1 = E := by omega
          rw [drop_all (show ts.length ≤ j + 1 by have := HLT.out; omega), runF] at hrun
          have hN : pre.length < (widths bs).length := by rw [← hrun]; simp
          have HRUN := Lib.hid hrun; have HN := Lib.hid hN; have HJE := Lib.hid hjE1
          clear hrun hEr hdj hN hjE1
          gi_wp2
          gi_quiet (fail)
          obtain ⟨fn, tmps, assign, body, hy, hYR⟩ := HY.out pre ((j : Int) + 1 - (st : Int)) (wr.drewN nq) (HJ.out _ _ _ none hJs (grown_drewN _ _) (fun _ e => by cases e)) HN.out
          gi_wp2
          refine hYR.mono ?_
          rintro e W3 (⟨rfl, hJ3, hk3⟩ | ⟨rfl, hJx3⟩)
          · have hB3 : Below w0.heap.size w0 W3 := (below_drewN hB nq).trans hk3.1
            have hBx3 := hk3.2 _ (show Boxed (wr.drewN nq) Bn 32 _ from hBx)
            gi_wp2
            go_roundw
            case rel => exact ⟨j + 1, j + 1, pre ++ [(j : Int) + 1 - (st : Int)], by omega, fun h => by have := HJE.out; omega, by omega, by omega, by go_num, by go_num, hJ3, hB3, hBx3, fun h => by have := HJE.out; omega, fun _ => by rw [← HRUN.out, show (j : Int) + 1 - (st : Int) = ((j - st : Nat) : Int) + 1 by omega]⟩
            case measure => simp [intOf]; omega
          · gi_wp2
            refine bodyPost_ret (results_none rfl _ _ _) rfl ?_
            exact ⟨⟨_, rfl⟩, .inr ⟨_, trivial, hJx3⟩⟩
      · have hgt : ¬ (j : Int) + 1 ≤ (len : Int) - (rg : Int) := by omega
        have hfin := hF.out (by omega)
        have HFIN := Lib.hid hfin
        clear hR hF hEr hsj hfin
        gi_wp2
        go_end0
        exact ⟨⟨_, rfl⟩, .inl (by rw [← HFIN.out]; exact hJs)⟩

set_option maxHeartbeats 1000000 in
theorem spans_in (n : Nat) (a : Option Addr) (len cap : Nat) (w : World) :
    CallsIn Fence.wide n Try.prog 45 #[.slice a len cap] w fun e w' => e = .returned (.func (.func 50) #[] #[.pointer (some ⟨w.heap.size, 0, none⟩)]) ∧ w' = w.alloc (.cells #[.slice a len cap] 32) := by
  refine callsIn_of_wp Try.func45 rfl trivial ?_ rfl
  simp only [Try.ntmps45, List.size_toArray, List.length_cons, List.length_nil, Nat.reduceAdd, Nat.reduceSub, Array.replicate_succ, Array.replicate_zero, List.push_toArray, List.append_toArray, List.nil_append, List.cons_append]
  gi_wp2
  go_ret
  exact ⟨rfl, rfl⟩

theorem spans_stops (n : Nat) (hn : 1 ≤ n) (Bn : Nat) (a : Option Addr) (len cap : Nat) (bs : List Bool) (w0 w : World) (h : RdB w0 a len bs) (hlen : len ≤ 1099511627776) (hw : Below w0.heap.size w0 w) (hBn : Boxed w Bn 32 (.slice a len cap)) :
    SeqStopsK Fence.wide n Try.prog 50 #[.pointer (some ⟨Bn, 0, none⟩)] (fun x : Int => #[Value.int .i64 x]) (KeepB w0.heap.size Bn) (fun ys => ys = widths bs) (fun _ => True) (widths bs).length w := fun l J Jx W hW hJ _ hY h0 =>
  spans1_in n hn l Bn a len cap bs w0 h hlen J Jx W hJ hY (hw.trans (hW.mono hw.size)) ((hW.block Bn hBn.lt).trans hBn) h0

theorem keepB_t {n0 Bn : Nat} {A B C : World} (h : KeepB n0 Bn A B) (k : KeepB n0 Bn B C) : KeepB n0 Bn A C := ⟨h.1.trans k.1, fun v hv => k.2 v (h.2 v hv)⟩
theorem keepB_b {n0 Bn : Nat} {w : World} (hn : n0 ≤ w.heap.size) (hB : Bn < w.heap.size) (W : World) (l : Nat) (o o' : Obj) (hl : w.heap.size ≤ l) (h : W.heap[l]? = some o) (h1 : o.isCells = false) (h2 : o.isWalk = false) : KeepB n0 Bn W (W.putObj l o') :=
  ⟨belowK_b hn W l o o' hl h h1 h2, fun v hv => hv.kept (grownBy_putObj' W l o') (by simp; omega)⟩

theorem boxed_other {W : World} {B B' : Nat} {t : TypeId} {v : Value} (h : Boxed W B t v) (u : Value) (hne : B ≠ B') : Boxed (W.setCell ⟨B', 0, none⟩ u) B t v :=
  (Below.heap_setCell W ⟨B', 0, none⟩ u B hne).trans h

set_option maxRecDepth 100000 in
set_option maxHeartbeats 2000000 in
theorem widths_in (n : Nat) (hn : 3 ≤ n) (a : Option Addr) (len cap : Nat) (bs : List Bool) (w : World) (h : RdB w a len bs) (hlen : len ≤ 1099511627776) :
    CallsIn Fence.wide n Try.prog 32 #[.slice a len cap] w (RetL (widths bs) w) := by
  have h1 : 1 ≤ n := by omega
  have hWL : (widths bs).length ≤ len := by
    have := runF_length (core bs) 0
    have hl := h.length
    unfold widths
    refine Nat.le_trans this ?_
    unfold core; simp; omega
  obtain ⟨i3, hi3, hz3a, hz3b, hz3c⟩ := info_parts info3
  refine callsIn_of_wp_marks Try.func32 rfl trivial ?_ rfl
  simp only [Try.ntmps32, List.size_toArray, List.length_cons, List.length_nil, Nat.reduceAdd, Nat.reduceSub, Array.replicate_succ, Array.replicate_zero, List.push_toArray, List.append_toArray, List.nil_append, List.cons_append]
  gi_wp2_with (refine ⟨trivial, ?_⟩; gi_at_call 45; refine (spans_in (n - 1) _ _ _ _).mono ?_; rintro e w' ⟨rfl, rfl⟩)
  have bO := Boxed.new w 22 (.slice none 0 0)
  have bN := Boxed.new (w.alloc (.cells #[.slice none 0 0] 22)) 32 (.slice a len cap)
  rw [World.size_alloc] at bN
  have hB0 : Below w.heap.size w ((w.alloc (.cells #[.slice none 0 0] 22)).alloc (.cells #[.slice a len cap] 32)) := ((Below.refl _ w).alloc (Nat.le_refl _) _).alloc (by simp) _
  refine wpIn_rangeFunc_ownG rfl h1 (gf := 50) (lb := #[.pointer (some ⟨w.heap.size + 1, 0, none⟩)]) rfl trivial (enters_of Try.func50 (by kernel_rfl) rfl)
    (spans_stops (n - 1) (by omega) (w.heap.size + 1) a len cap bs w _ h hlen hB0 bN) keepB_t (keepB_b (by simp; omega) (by simp)) (Below.refl _ _) (fun _ => rfl)
    (fun (pre : List Int) W => (∃ v, Boxed W w.heap.size 22 v ∧ W.ownsRow w.heap.size 3 1 v pre.length (pre.map (Value.int .i64)) ∧ True) ∧ Below w.heap.size w W)
    (fun _ _ _ => False)
    (OwnFrom.and (Own.from (holdsRow_own w.heap.size w.heap.size 22 3 1 (fun pre : List Int => pre.length) (fun pre : List Int => pre.map (Value.int .i64)) (fun _ _ => True)) _) (ownFrom_below (Nat.le_refl _) (by simp; omega)))
    (fun _ _ _ _ _ hs _ _ => hs)
    ⟨⟨_, bO.alloc _, World.ownsRow_nil _ _ _ _, trivial⟩, hB0⟩
    (fun x => { tmps := #[.slice a len cap, undef, .slice none 0 0, .pointer (some ⟨w.heap.size, 0, none⟩), .int .i64 x, .slice a len cap, .func (.func 50) #[] #[.pointer (some ⟨w.heap.size + 1, 0, none⟩)], .int .i64 x, undef, undef, undef, undef, undef], defers := [] }) ?assign ?body ?done ?stop
  case assign =>
    intro l x W K hK
    gi_wp2
    exact hK
  case body =>
    rintro l pre x W ⟨⟨v, hv, hrow, _⟩, hB⟩ hlt
    have hc := hv.cell
    gi_wp2_with (gi_at_builtin; refine wpListIn_append_own _ rfl _ _ 22 rfl w.heap.size 3 i3 (.int .i64 0) 1 8 Try.underlying22 hi3 hz3a hz3b hz3c rfl (by decide) _ _ _ rfl (hrow.alloc _) ⟨W.heap.size, 0, none⟩ 1 1 [.int .i64 x] rfl rfl (cell_one_new _ _ _) (by simp [Value.oneCell']) (by unfold maxLen; omega) (by omega) (by have := hB.size; simp; omega) ?_; intro v' w1 hown' hgrow _; obtain ⟨g', cap', rfl⟩ := ownsRow_succ hown'; obtain ⟨hv1, hv2, hr2, hk2, hb2⟩ := hv.appended (by decide) hrow hB.size (Nat.le_refl _) hown' hgrow; have hc1 := hv1.cell; have hf1 := hv1.frozen)
    refine ⟨hk2.from _, ⟨hb2, fun u hu => ?_⟩, ⟨_, hv2, by simpa using hr2, trivial⟩, hB.trans hb2⟩
    exact boxed_other ((hu.alloc _).kept hgrow (hu.not_row (by decide) hrow)) _ (by omega)
  case done =>
    rintro D ys W hD rfl ⟨⟨v, hv, hrow, _⟩, hB⟩ hK
    have hc := hv.cell
    gi_wp2
    refine ⟨by simp, .inl ⟨_, _, rfl, run_takeDeferred hK, ?_⟩⟩
    exact ⟨_, results_tmp rfl _ _ _, v, rfl, ownsRow_putObj hrow _ hK rfl, hB.trans (belowK_b (w := w) (Nat.le_refl _) W D _ _ (by simp at hD; omega) hK rfl rfl)⟩
  case stop =>
    rintro D c pre W _ _ h _
    exact h.elim

theorem widths_any (a : Option Addr) (n cap : Nat) (bs : List Bool) (w : World) (h : RdB w a n bs) (hn : n ≤ 1099511627776) :
    Calls Try.prog 32 #[.slice a n cap] w (RetL (widths bs) w) := callsIn_wide.1 (widths_in 3 (by omega) a n cap bs w h hn)
end Go.Proofs.Ytofedeokliljkaa
