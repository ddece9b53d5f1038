/-
  The walk of choose of modes' windows. Condition: the numbers are small.
-/
import Derived.Test.YtifgpjhodajccaaWalkD
import Derived.RangeFuncRecord
import Derived.Deep.Cut
import Derived.Deep.CutRange
import Derived.Deep.DeepCutAuto
namespace Go.Proofs.Ytifgpjhodajccaa
open Go.RowKit

/-- What is left of choose. -/
def chooseR (m cl : Nat) (P : Nat → Pl) (at_ : Nat) : Nat → Wq × Pl → Wq × Pl
  | 0, s => s
  | r + 1, s => chooseR m cl P at_ r (chooseK m cl P at_ (2 - r) s)

theorem chooseR_all (m cl : Nat) (P : Nat → Pl) (at_ : Nat) (s : Wq × Pl) : chooseR m cl P at_ 3 s = chooseF m cl P at_ s := rfl

def plV (p : Pl) : Array Value := #[.int .i64 p.bits, .int .i64 p.segs, .int .i64 p.size, .int .i64 p.mode]

theorem trim_cons (lim a x : Nat) (r : List Nat) : trimQ lim a (x :: r) = if lim < x - a then trimQ lim a r else x :: r := by
  unfold trimQ
  rw [List.dropWhile_cons]
  simp only [decide_eq_true_eq]

theorem set4 {w : World} {g : Nat} {a b c d x y z u : Value} {t : TypeId} (h : w.heap[g]? = some (.cells #[a, b, c, d] t (0, 0))) :
    ((((w.setCell ⟨g, 0, none⟩ x).setCell ⟨g, 1, none⟩ y).setCell ⟨g, 2, none⟩ z).setCell ⟨g, 3, none⟩ u).heap[g]? = some (.cells #[x, y, z, u] t (0, 0)) := by
  have h1 := heap_setCell_same w g 0 _ t x h
  have h2 := heap_setCell_same _ g 1 _ t y h1
  have h3 := heap_setCell_same _ g 2 _ t z h2
  exact heap_setCell_same _ g 3 _ t u h3

theorem size87 : (Try.prog.info? 87).map (·.size) = some 4 := by kernel_rfl
theorem one4 (a b c d : Int) : (#[Value.int .i64 a, .int .i64 b, .int .i64 c, .int .i64 d].all (·.oneCell')) = true := by simp [Value.oneCell']

set_option maxRecDepth 100000 in
set_option maxHeartbeats 8000000 in
theorem choose_any {m cl : Nat} (hm : isMode m) (hcl : cl < 3) (gw ge gp n pc c a : Nat) (W : Wq) (P : Nat → Pl) (best : Pl) (w : World) (h : WinW w gw ge m cl n W c) (hP : PlanW w gp n (a + 1) P) (hok : ∀ x, a < x → x ≤ n → okPl n x (P x)) (hq : okW n a W) (hb : okBest n a best) (hn : n ≤ 4900) (hgp : gp ≠ gw) :
    Calls Try.prog 51 #[.pointer (some ⟨gw, 0, none⟩), .slice (some ⟨gp, 0, none⟩) (n + 1) pc, .int .i64 a, .agg (plV best)] w
      fun r w' => r = .returned (.agg (plV (chooseF m cl P a (W, best)).2)) ∧ WinW w' gw ge m cl n (chooseF m cl P a (W, best)).1 c ∧ Chg [gw] w w' := by
  have H := Lib.hid h
  have HP := Lib.hid hP
  have HOK := Lib.hid hok
  have HQ := Lib.hid hq
  have HB := Lib.hid hb
  obtain ⟨hl1, hl2⟩ := h.lt
  have hl3 := hP.lt
  clear h hP hok hq hb
  obtain ⟨gb, hgb⟩ : ∃ gb, w.heap.size = gb := ⟨_, rfl⟩
  go_enter Try.func51, Try.ntmps51
  go_wp2_with fail
  have h0 : Chg [gw] w ((w.alloc (.cells (plV best) 87)).alloc (.cells #[.int .i64 0, .int .i64 0, .int .i64 0, .int .i64 0] 87)) := ((Chg.refl _ _).alloc _).alloc _
  have hA1 : ((w.alloc (.cells (plV best) 87)).alloc (.cells #[.int .i64 0, .int .i64 0, .int .i64 0, .int .i64 0] 87)).heap[gb]? = some (.cells (plV best) 87 (0, 0)) := by
    rw [Below.heap_alloc _ _ _ (by simp; omega), ← hgb]; show (w.heap.push _)[w.heap.size]? = _; simp
  have hA2 : ((w.alloc (.cells (plV best) 87)).alloc (.cells #[.int .i64 0, .int .i64 0, .int .i64 0, .int .i64 0] 87)).heap[gb + 1]? = some (.cells (plV Pl.zero) 87 (0, 0)) := by
    rw [← hgb]; have h9 := World.alloc_heap_new (w.alloc (.cells (plV best) 87)) (.cells #[.int .i64 0, .int .i64 0, .int .i64 0, .int .i64 0] 87); have e : (w.alloc (.cells (plV best) 87)).heap.size = w.heap.size + 1 := by simp
    rw [e] at h9; exact h9
  have hWA := H.out.chg (S := []) (((Chg.refl _ _).alloc (.cells (plV best) 87)).alloc (.cells #[.int .i64 0, .int .i64 0, .int .i64 0, .int .i64 0] 87)) (by simp) (by simp)
  have HA := Lib.hid (And.intro h0 (And.intro hA1 (And.intro hA2 hWA)))
  clear h0 hA1 hA2 hWA
  go_loopg [14] 3 (fun r x wr => ∃ (k : Nat) (W' : Wq) (b : Pl), k + r = 3 ∧ x = .int .i64 k ∧ Hid (WinW wr gw ge m cl n W' c) ∧ wr.heap[gb]? = some (.cells (plV b) 87 (0, 0)) ∧ wr.heap[gb + 1]? = some (.cells (plV Pl.zero) 87 (0, 0)) ∧ Chg [gw] w wr ∧ Hid (okW n a W' ∧ okBest n a b) ∧ Hid (chooseR m cl P a r (W', b) = chooseF m cl P a (W, best)))
  case atStart => exact ⟨0, W, best, rfl, rfl, Lib.hid HA.out.2.2.2, HA.out.2.1, HA.out.2.2.1, HA.out.1, Lib.hid ⟨HQ.out, HB.out⟩, chooseR_all m cl P a _⟩
  case round =>
    clear HA
    obtain ⟨k, W', b, hk, rfl, hW, hbb, hbr, hC, hO, hR⟩ := hrel
    have hlb : gb < wr.heap.size := (Array.getElem?_eq_some_iff.1 hbb).1
    have hlr : gb + 1 < wr.heap.size := (Array.getElem?_eq_some_iff.1 hbr).1
    by_cases hlt : k < 3
    · obtain ⟨A, O, hOc, hqu⟩ := hW.out.que k hlt
      have s0 := hqu.slot
      have HQC := Lib.hid hqu.cell
      have hfit := hqu.fit
      have hadr := hqu.adr
      have q0 : (0 : Int) ≤ (k : Int) := by omega
      have q1 : (k : Int) < 3 := by omega
      have hqk := okW_get hO.out.1 k
      have HQK := Lib.hid hqk
      clear hqk hqu
      have hcst := hW.out.consts
      obtain ⟨d0, d1, d2, d3, d4, d5, d6, d7, d8⟩ := hcst
      obtain ⟨Q, hQ⟩ : ∃ Q, W'.get k = Q := ⟨_, rfl⟩
      rw [hQ] at s0 HQC hfit HQK hOc
      have HQQ := Lib.hid hQ
      clear hQ
      obtain ⟨wo, rfl⟩ : ∃ wo : World, wo = wr := ⟨_, rfl⟩
      go_wp2_with fail
      go_loopg [10] Q.length (fun r x wr => ∃ (q : List Nat) (A' O' : Nat), r = q.length ∧ x = .slice (some ⟨ge, A', none⟩) q.length (n - O') ∧ O' + q.length = O + Q.length ∧ (O' < n → A' = k * n + O') ∧ (∃ z, wr = wo.drewN z) ∧ Hid (∀ (t x : Nat), q[t]? = some x → wo.cell? ⟨ge, k * n + O' + t, none⟩ = some (.int .i64 x)) ∧ Hid (∀ x ∈ q, x ∈ Q) ∧ Hid (trimQ (limF m cl) a q = trimQ (limF m cl) a Q))
      case atStart => exact ⟨Q, A, O, rfl, rfl, rfl, hadr, ⟨0, rfl⟩, HQC, Lib.hid fun x hx => hx, rfl⟩
      case round =>
        obtain ⟨q, A', O', rfl, rfl, hOQ, hadr', ⟨z, rfl⟩, hcell, hsub, htrim⟩ := hrel
        cases q with
        | nil =>
          obtain ⟨v0, v1, v2, hb⟩ := hW.out.blk
          have s1 := froz_of_blk hb (9 + k)
          have hR' : Hid (chooseR m cl P a (2 - k) (W'.set k [], b) = chooseF m cl P a (W, best)) := Lib.hid (by
            rw [← hR.out]
            obtain ⟨gk', rfl⟩ : ∃ g, gk = g + 1 := ⟨gk - 1, by omega⟩
            have e1 : 2 - gk' = k := by omega
            have e2 : 2 - k = gk' := by omega
            rw [chooseR, e1, e2]
            unfold chooseK
            simp only [HQQ.out, ← htrim.out]
            rfl)
          clear hb
          simp only [List.length_nil] at *
          go_wp2_with fail
          go_quiet (fail)
          go_wp2_with fail
          go_roundg (2 - k)
          case rel =>
            refine ⟨k + 1, W'.set k [], b, by omega, by go_num, Lib.hid ((hW.out.drewN _).store (Nat.le_refl _) hlt [] A' O' (by simp; omega) (by simp) hadr' (by simp; omega)), ?_, ?_, (hC.drewN _).setCell (.inl (by simp)) _, Lib.hid ⟨okW_set hO.out.1 k (fun _ h => (nomatch h)), hO.out.2⟩, hR'⟩
            · exact (Below.heap_setCell _ _ _ _ (by simp; omega)).trans hbb
            · exact (Below.heap_setCell _ _ _ _ (by simp; omega)).trans hbr
          case measure => omega
        | cons x r =>
          have hA' : A' = k * n + O' := hadr' (by simp at hOQ; omega)
          have hx : wo.cell? ⟨ge, k * n + O' + 0, none⟩ = some (.int .i64 x) := hcell.out 0 x (by simp)
          rw [Nat.add_zero] at hx
          subst hA'
          have hxb := HQK.out x (hsub.out x (by simp))
          have htc := trim_cons (limF m cl) a x r
          have HTC := Lib.hid htc
          have hlim := lim_pos (m := m) hcl
          clear htc
          by_cases hfar : limF m cl < x - a
          · have hd : decide ((limF m cl : Int) < (x : Int) - (a : Int)) = true := by simp; omega
            go_wp2_with fail
            go_quiet (fail)
            go_wp2_with fail
            all_goals
              go_roundg r.length
              case rel =>
                first
                | exact ⟨r, k * n + O', O' + 1, rfl, by rw [show n - (O' + 1) = 0 by omega], by simp at hOQ; omega, fun h => by omega, ⟨_, rfl⟩, Lib.hid fun t y hy => by have := hcell.out (t + 1) y (by simpa using hy); rw [← this]; congr 2; omega, Lib.hid fun y hy => hsub.out y (by simp [hy]), by rw [← htrim.out, HTC.out, if_pos hfar]; rfl⟩
                | exact ⟨r, k * n + O' + 1, O' + 1, rfl, by rw [show n - O' - 1 = n - (O' + 1) by omega], by simp at hOQ; omega, fun h => by omega, ⟨_, rfl⟩, Lib.hid fun t y hy => by have := hcell.out (t + 1) y (by simpa using hy); rw [← this]; congr 2; omega, Lib.hid fun y hy => hsub.out y (by simp [hy]), by rw [← htrim.out, HTC.out, if_pos hfar]; rfl⟩
              case measure => simp
          · have hd : decide ((limF m cl : Int) < (x : Int) - (a : Int)) = false := by simp; omega
            obtain ⟨v0, v1, v2, hb⟩ := hW.out.blk
            have s1 := froz_of_blk hb (9 + k)
            have htq : trimQ (limF m cl) a Q = x :: r := by rw [← htrim.out, HTC.out, if_neg hfar]
            have HTQ := Lib.hid htq
            have hpx := HOK.out x (by omega) (by omega)
            clear hb htq
            go_wp2_with fail
            go_quiet (fail)
            go_upto_region 8 with fail
            have hW2 := (hW.out.drewN (z + nq)).store (Nat.le_refl _) hlt (x :: r) (k * n + O') O' (by omega) hcell.out (fun _ => rfl) (by omega)
            have hC2 : Chg [gw] w ((wo.drewN (z + nq)).setCell ⟨gw, 9 + k, none⟩ (.slice (some ⟨ge, k * n + O', none⟩) (x :: r).length (n - O'))) := (hC.drewN _).setCell (.inl (by simp)) _
            have hbb2 := (Below.heap_setCell (wo.drewN (z + nq)) ⟨gw, 9 + k, none⟩ (.slice (some ⟨ge, k * n + O', none⟩) (x :: r).length (n - O')) gb (by simp; omega)).trans hbb
            have hbr2 := (Below.heap_setCell (wo.drewN (z + nq)) ⟨gw, 9 + k, none⟩ (.slice (some ⟨ge, k * n + O', none⟩) (x :: r).length (n - O')) (gb + 1) (by simp; omega)).trans hbr
            have hx2 : ((wo.drewN (z + nq)).setCell ⟨gw, 9 + k, none⟩ (.slice (some ⟨ge, k * n + O', none⟩) (x :: r).length (n - O'))).cell? ⟨ge, k * n + O', none⟩ = some (.int .i64 x) := (World.cell?_setCell_other _ _ _ _ (by intro h2; injection h2 with h3; exact hW.out.ne h3)).trans hx
            rw [List.length_cons] at hW2 hC2 hbb2 hbr2 hx2
            generalize ((wo.drewN (z + nq)).setCell ⟨gw, 9 + k, none⟩ (.slice (some ⟨ge, k * n + O', none⟩) (r.length + 1) (n - O'))) = w2 at *
            obtain ⟨p0, p1, p2, p3⟩ := ((HP.out.chg hC2 (by simpa using hgp)).cells x (by omega) (by omega))
            obtain ⟨f0, f1, f2, f3, f4, f5, f6, f7, f8⟩ := hW2.consts
            have hW2l := hW2.lt
            obtain ⟨hg1, hg2⟩ := hW2l
            have HW2 := Lib.hid hW2
            have HPX := Lib.hid hpx
            have hxa : x - a ≤ 1000000 := by omega
            have hsz := fun W => size_any m (x - a) W hm hxa
            have hsb := size_bnd hm (x - a)
            have hhb := head_bnd (m := m) hcl
            unfold okPl at hpx
            have hbits : headF m cl + sizeF (packF m) (x - a) + (P x).bits ≤ 1000000 := by omega
            have hcd : candF m cl P a (x :: r) b = if betterF (cand m cl P a x) b then cand m cl P a x else b := rfl
            have hcc : cand m cl P a x = ⟨headF m cl + sizeF (packF m) (x - a) + (P x).bits, (P x).segs + 1, ((x - a : Nat) : Int), m⟩ := rfl
            have hxai : ((x - a : Nat) : Int) = (x : Int) - (a : Int) := by omega
            rw [hcc] at hcd
            have HCD := Lib.hid hcd
            have HCC := Lib.hid hcc
            have hxb1 := hxb.1
            have hxb2 := hxb.2
            clear hcd hcc hW2 hcell htrim hsub hx d0 d1 d2 d3 d4 d5 d6 d7 d8 s0 s1 hbb hbr hC hlb hlr
            obtain ⟨px, hpxe⟩ : ∃ px, P x = px := ⟨_, rfl⟩
            rw [hpxe] at p0 p1 p2 p3 HCD hbits hpx HCC
            have HPE := Lib.hid hpxe
            clear hpxe
            obtain ⟨e0, e1, e2, e3⟩ := px
            simp only at p0 p1 p2 p3 hbits hpx
            obtain ⟨x0, x1, x2, x3, x4, x5, x6, x7, x8⟩ := hpx
            obtain ⟨sz, hsze⟩ : ∃ sz, sizeF (packF m) (x - a) = sz := ⟨_, rfl⟩
            rw [hsze] at HCD hbits HCC hsb
            simp only [hsze, hxai] at hsz
            obtain ⟨y0, y1⟩ := hsb
            obtain ⟨z0, z1⟩ := hhb
            have HSZ := Lib.hid hsz
            clear hsze hsz
            have hlb : gb < w2.heap.size := (Array.getElem?_eq_some_iff.1 hbb2).1
            have hlr : gb + 1 < w2.heap.size := (Array.getElem?_eq_some_iff.1 hbr2).1
            have hlen0 : ((r.length : Int) + 1 == 0) = false := by simp; omega
            go_wp2_with fail
            have hch3 : Chg [] w2 (w2.alloc (.cells #[.int .i64 e0, .int .i64 e1, .int .i64 e2, .int .i64 e3] 87)) := (Chg.refl _ _).alloc _
            have hC3 : Chg [gw] w (w2.alloc (.cells #[.int .i64 e0, .int .i64 e1, .int .i64 e2, .int .i64 e3] 87)) := hC2.alloc _
            have hW3 := HW2.out.chg hch3 (by simp) (by simp)
            have hbb3 := (Below.heap_alloc w2 (.cells #[.int .i64 e0, .int .i64 e1, .int .i64 e2, .int .i64 e3] 87) gb hlb).trans hbb2
            have hbr3 := (Below.heap_alloc w2 (.cells #[.int .i64 e0, .int .i64 e1, .int .i64 e2, .int .i64 e3] 87) (gb + 1) hlr).trans hbr2
            have hrest := World.alloc_heap_new w2 (.cells #[.int .i64 e0, .int .i64 e1, .int .i64 e2, .int .i64 e3] 87)
            have hsz3 : (w2.alloc (.cells #[.int .i64 e0, .int .i64 e1, .int .i64 e2, .int .i64 e3] 87)).heap.size = w2.heap.size + 1 := by simp
            have hch3' := Lib.hid hch3
            generalize (w2.alloc (.cells #[.int .i64 e0, .int .i64 e1, .int .i64 e2, .int .i64 e3] 87)) = w3 at *
            generalize w2.heap.size = gr at *
            have r0 : w3.cell? ⟨gr, 0, none⟩ = some (.int .i64 e0) := cell_of_blk hrest _ rfl
            have r1 : w3.cell? ⟨gr, 1, none⟩ = some (.int .i64 e1) := cell_of_blk hrest _ rfl
            obtain ⟨j0, j1, j2, j3, j4, j5, j6, j7, j8⟩ := hW3.consts
            have HW3 := Lib.hid hW3
            clear hW3 hch3 hrest f0 f1 f2 f3 f4 f5 f6 f7 f8 p0 p1 p2 p3 hx2 hbb2 hbr2 hC2
            have g3w : gw < w3.heap.size := by omega
            have g3r : gr < w3.heap.size := by omega
            have n1 : ¬ (gr + 1 = gw) := by omega
            have n2 : ¬ (gr + 2 = gw) := by omega
            have n3 : ¬ (gw = gr + 1) := by omega
            have n4 : ¬ (gw = gr + 2) := by omega
            have n5 : ¬ (gr + 1 = gr) := by omega
            have n6 : ¬ (gr + 2 = gr) := by omega
            have wr1 : IntKind.i64.wrap (headF m cl + sz) = headF m cl + sz := IntWalk.i64_in _ (by omega)
            have wr2 : IntKind.i64.wrap (headF m cl + sz + e0) = headF m cl + sz + e0 := IntWalk.i64_in _ (by omega)
            have wr3 : IntKind.i64.wrap (e1 + 1) = e1 + 1 := IntWalk.i64_in _ (by omega)
            go_cut [13] (fun p wx => ∃ gx, p = .pointer (some ⟨gx, 0, none⟩) ∧ wx.heap[gx]? = some (.cells #[.int .i64 (headF m cl + sz + e0), .int .i64 (e1 + 1), .int .i64 ((x : Int) - (a : Int)), .int .i64 m] 87 (0, 0)) ∧ Chg [] w3 wx ∧ w3.heap.size ≤ gx)
            case first =>
              go_region_held3 (fun w' => w'.cell? ⟨gw, 0, none⟩ = some (.int .i64 m) ∧ w'.cell? ⟨gw, 1, none⟩ = some (.int .i64 (packF m).unit) ∧ w'.cell? ⟨gw, 2, none⟩ = some (.int .i64 (packF m).base) ∧ w'.cell? ⟨gw, 3, none⟩ = some (.int .i64 (packF m).full) ∧ w'.cell? ⟨gw, 4, none⟩ = some (.int .i64 (packF m).p0) ∧ w'.cell? ⟨gw, 5, none⟩ = some (.int .i64 (packF m).p1) ∧ w'.cell? ⟨gw, 6, none⟩ = some (.int .i64 (packF m).p2) ∧ w'.cell? ⟨gw, 7, none⟩ = some (.int .i64 (headF m cl)) ∧ w'.cell? ⟨gr, 0, none⟩ = some (.int .i64 e0) ∧ w'.cell? ⟨gr, 1, none⟩ = some (.int .i64 e1)) (go_keep)
                ((go_at_call 76; refine (HSZ.out _).mono ?_; rintro re w5 ⟨rfl, zq, rfl⟩))
              · go_wp2_with fail
                go_meet
                refine ⟨gr + 1 + 1, rfl, ?_, (((Chg.refl [] w3).alloc _).drewN _).alloc _, by omega⟩
                have h9 := World.alloc_heap_new ((w3.alloc (.cells (pkV m) 91)).drewN (1 + zq)) (.cells #[.int .i64 (headF m cl + sz + e0), .int .i64 (e1 + 1), .int .i64 ((x : Int) - (a : Int)), .int .i64 m] 87)
                have e : ((w3.alloc (.cells (pkV m) 91)).drewN (1 + zq)).heap.size = gr + 1 + 1 := by show (w3.alloc _).heap.size = _; simp; omega
                rw [e] at h9
                exact h9
              · go_wp2_with fail
                go_meet
                refine ⟨gr + 1, rfl, ?_, ?_, by omega⟩
                · refine set4 (a := .int .i64 0) (b := .int .i64 0) (c := .int .i64 0) (d := .int .i64 0) ?_
                  show ((w3.alloc (.cells #[.int .i64 0, .int .i64 0, .int .i64 0, .int .i64 0] 87)).alloc (.cells (pkV m) 91)).heap[gr + 1]? = _
                  rw [Below.heap_alloc _ _ _ (by simp; omega)]
                  have h9 := World.alloc_heap_new w3 (.cells #[.int .i64 0, .int .i64 0, .int .i64 0, .int .i64 0] 87)
                  rw [hsz3] at h9
                  exact h9
                · exact ((((((((Chg.refl [] w3).alloc _).alloc _).drewN _).setCell (.inr (Nat.le_of_eq hsz3)) _).setCell (.inr (Nat.le_of_eq hsz3)) _).setCell (.inr (Nat.le_of_eq hsz3)) _).setCell (.inr (Nat.le_of_eq hsz3)) _)
            case rest =>
              obtain ⟨gx, rfl, hgx, hcx, hgxl⟩ := hcut
              have hbb4 := (hcx.block gb (by omega) (by simp)).trans hbb3
              have hbr4 := (hcx.block (gb + 1) (by omega) (by simp)).trans hbr3
              have hW4 := HW3.out.chg hcx (by simp) (by simp)
              have hC4 : Chg [gw] w wc := hC3.trans (hcx.mono (by simp))
              have HW4 := Lib.hid hW4
              have hcs := hcx.size
              have hlg4 : gx < wc.heap.size := (Array.getElem?_eq_some_iff.1 hgx).1
              clear hW4 hcx HW3 hbb3 hbr3 hC3 r0 r1 j0 j1 j2 j3 j4 j5 j6 j7 j8
              have hpc : (⟨headF m cl + sz + e0, e1 + 1, ((x - a : Nat) : Int), m⟩ : Pl) = ⟨headF m cl + sz + e0, e1 + 1, (x : Int) - (a : Int), m⟩ := by rw [hxai]
              have hcd := HCD.out
              rw [hpc] at hcd
              have HCD2 := Lib.hid hcd
              have hokc : okPl n a ⟨headF m cl + sz + e0, e1 + 1, (x : Int) - (a : Int), m⟩ := by
                have := cand_ok (P := P) hm hcl hxb1 hxb2 HPX.out
                rw [HCC.out, hpc] at this; exact this
              have HOKC := Lib.hid hokc
              clear hcd hpc hokc
              have hbt := fun W => better_any ⟨headF m cl + sz + e0, e1 + 1, (x : Int) - (a : Int), m⟩ b W
              have hob := hO.out.2
              have HOB := Lib.hid hob
              have hR' : Hid (chooseR m cl P a (2 - k) (W'.set k (x :: r), candF m cl P a (x :: r) b) = chooseF m cl P a (W, best)) := Lib.hid (by
                rw [← hR.out]
                obtain ⟨gk', rfl⟩ : ∃ g, gk = g + 1 := ⟨gk - 1, by omega⟩
                have t1 : 2 - gk' = k := by omega
                have t2 : 2 - k = gk' := by omega
                rw [chooseR, t1, t2]
                unfold chooseK
                simp only [HQQ.out, HTQ.out])
              have hokw : okW n a (W'.set k (x :: r)) := okW_set hO.out.1 k (fun y hy => okW_get hO.out.1 k y (by rw [HQQ.out]; exact mem_trimQ (l := limF m cl) (a := a) (by rw [HTQ.out]; exact hy)))
              have HOKW := Lib.hid hokw
              clear hokw hob
              obtain ⟨c0, c1, c2, c3⟩ := b
              have u0 : wc.cell? ⟨gb, 0, none⟩ = some (.int .i64 c0) := cell_of_blk hbb4 _ rfl
              have u1 : wc.cell? ⟨gb, 1, none⟩ = some (.int .i64 c1) := cell_of_blk hbb4 _ rfl
              have u2 : wc.cell? ⟨gb, 2, none⟩ = some (.int .i64 c2) := cell_of_blk hbb4 _ rfl
              have u3 : wc.cell? ⟨gb, 3, none⟩ = some (.int .i64 c3) := cell_of_blk hbb4 _ rfl
              have v0 : wc.cell? ⟨gx, 0, none⟩ = some (.int .i64 (headF m cl + sz + e0)) := cell_of_blk hgx _ rfl
              have v1 : wc.cell? ⟨gx, 1, none⟩ = some (.int .i64 (e1 + 1)) := cell_of_blk hgx _ rfl
              have v2 : wc.cell? ⟨gx, 2, none⟩ = some (.int .i64 ((x : Int) - (a : Int))) := cell_of_blk hgx _ rfl
              have v3 : wc.cell? ⟨gx, 3, none⟩ = some (.int .i64 m) := cell_of_blk hgx _ rfl
              simp only at hbt
              cases hbe : betterF ⟨headF m cl + sz + e0, e1 + 1, (x : Int) - (a : Int), m⟩ ⟨c0, c1, c2, c3⟩ with
              | true =>
                simp only [hbe] at hbt
                have HBT := Lib.hid hbt
                have hcd := HCD2.out
                rw [hbe] at hcd
                simp only [if_true] at hcd
                have HCD3 := Lib.hid hcd
                clear hbt hcd HCD2 hbe
                go_wp2_with fail
                refine (HBT.out _).mono ?_
                rintro re w6 ⟨rfl, hb6⟩
                have hbb6 := (hb6.block gb (by omega)).trans hbb4
                have hbr6 := (hb6.block (gb + 1) (by omega)).trans hbr4
                have hgx6 := (hb6.block gx (by omega)).trans hgx
                have HW6 := Lib.hid (HW4.out.chg (S := []) (Chg.of_below hb6) (by simp) (by simp))
                have hC6 : Chg [gw] w w6 := hC4.trans (Chg.of_below hb6)
                clear u0 u1 u2 u3 v0 v1 v2 v3 hbb4 hbr4 hgx HW4 hC4
                have v0 : w6.cell? ⟨gx, 0, none⟩ = some (.int .i64 (headF m cl + sz + e0)) := cell_of_blk hgx6 _ rfl
                have v1 : w6.cell? ⟨gx, 1, none⟩ = some (.int .i64 (e1 + 1)) := cell_of_blk hgx6 _ rfl
                have v2 : w6.cell? ⟨gx, 2, none⟩ = some (.int .i64 ((x : Int) - (a : Int))) := cell_of_blk hgx6 _ rfl
                have v3 : w6.cell? ⟨gx, 3, none⟩ = some (.int .i64 m) := cell_of_blk hgx6 _ rfl
                go_wp2_with (refine wpList_store_row rfl 87 (.tmp 7) (.tmp 86) rfl gb #[.int .i64 (headF m cl + sz + e0), .int .i64 (e1 + 1), .int .i64 ((x : Int) - (a : Int)), .int .i64 m] rfl rfl 87 _ hbb6 size87 rfl (one4 _ _ _ _) ?_)
                go_roundg (2 - k)
                case rel =>
                  refine ⟨k + 1, W'.set k (x :: r), candF m cl P a (x :: r) ⟨c0, c1, c2, c3⟩, by omega, by go_num, Lib.hid (HW6.out.chg (S := [gb]) ((Chg.refl _ _).setRow (.inl (by simp)) _) (by simp; omega) (by simp; omega)), ?_, ?_, hC6.setRow (.inr (by omega)) _, Lib.hid ⟨HOKW.out, ?_⟩, hR'⟩
                  · rw [HCD3.out]; exact setRow_heap _ _ _ _ _ _ hbb6
                  · exact (setRow_other _ _ _ _ (by omega)).trans hbr6
                  · rw [HCD3.out]; exact .inr HOKC.out
                case measure => omega
              | false =>
                simp only [hbe] at hbt
                have HBT := Lib.hid hbt
                have hcd := HCD2.out
                rw [hbe] at hcd
                simp only [Bool.false_eq_true, if_false] at hcd
                have HCD3 := Lib.hid hcd
                clear hbt hcd HCD2 hbe
                go_wp2_with fail
                refine (HBT.out _).mono ?_
                rintro re w6 ⟨rfl, hb6⟩
                have hbb6 := (hb6.block gb (by omega)).trans hbb4
                have hbr6 := (hb6.block (gb + 1) (by omega)).trans hbr4
                have hgx6 := (hb6.block gx (by omega)).trans hgx
                have HW6 := Lib.hid (HW4.out.chg (S := []) (Chg.of_below hb6) (by simp) (by simp))
                have hC6 : Chg [gw] w w6 := hC4.trans (Chg.of_below hb6)
                clear u0 u1 u2 u3 v0 v1 v2 v3 hbb4 hbr4 hgx HW4 hC4
                go_wp2_with fail
                go_roundg (2 - k)
                case rel => exact ⟨k + 1, W'.set k (x :: r), candF m cl P a (x :: r) ⟨c0, c1, c2, c3⟩, by omega, by go_num, HW6, by rw [HCD3.out]; exact hbb6, hbr6, hC6, Lib.hid ⟨HOKW.out, by rw [HCD3.out]; exact HOB.out⟩, hR'⟩
                case measure => omega
    · have hk3 : k = 3 := by omega
      subst hk3
      have hg0 : gk = 0 := by omega
      subst hg0
      have hres : (W', b) = chooseF m cl P a (W, best) := hR.out
      have HRES := Lib.hid hres
      clear hres hR
      obtain ⟨c0, c1, c2, c3⟩ := b
      have u0 : wr.cell? ⟨gb, 0, none⟩ = some (.int .i64 c0) := cell_of_blk hbb _ rfl
      have u1 : wr.cell? ⟨gb, 1, none⟩ = some (.int .i64 c1) := cell_of_blk hbb _ rfl
      have u2 : wr.cell? ⟨gb, 2, none⟩ = some (.int .i64 c2) := cell_of_blk hbb _ rfl
      have u3 : wr.cell? ⟨gb, 3, none⟩ = some (.int .i64 c3) := cell_of_blk hbb _ rfl
      go_wp2_with (refine wpList_store_row rfl 87 (.tmp 8) (.tmp 88) rfl (gb + 1) #[.int .i64 c0, .int .i64 c1, .int .i64 c2, .int .i64 c3] rfl rfl 87 _ hbr size87 rfl (one4 _ _ _ _) ?_)
      have hfin := setRow_heap wr (gb + 1) _ #[.int .i64 c0, .int .i64 c1, .int .i64 c2, .int .i64 c3] 87 (0, 0) hbr
      have y0 := cell_of_blk (j := 0) hfin _ rfl
      have y1 := cell_of_blk (j := 1) hfin _ rfl
      have y2 := cell_of_blk (j := 2) hfin _ rfl
      have y3 := cell_of_blk (j := 3) hfin _ rfl
      refine bodyPost_ret (v := .agg #[.int .i64 c0, .int .i64 c1, .int .i64 c2, .int .i64 c3]) (by simp [results, Try.results51, go_sem, y0, y1, y2, y3]) rfl ?_
      rw [← HRES.out]
      exact ⟨rfl, hW.out.chg (S := [gb + 1]) ((Chg.refl _ _).setRow (.inl (by simp)) _) (by simp; omega) (by simp; omega), hC.setRow (.inr (by omega)) _⟩

end Go.Proofs.Ytifgpjhodajccaa
