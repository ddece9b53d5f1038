/-
  The walk of the reference's first. Condition: the payload is short.
-/
import Derived.Test.YtifgpjhodajccaaRefB
namespace Go.Proofs.Ytifgpjhodajccaa
open Go.RowKit

/-- What the best choice says, of the choices that were looked at. -/
def PB (bs : List Int) (cl k : Nat) (B : Nat → Int) (D : Nat → Nat → Prop) (b0 b1 b2 b3 : Int) : Prop :=
  (∀ m e, isMode m → reach bs m k e → D m e → b2 ≠ 0 ∧ b0 ≤ headF m cl + sizeF (packF m) (e - k) + B e) ∧
  (b2 = 0 ∨ ∃ m e, isMode m ∧ reach bs m k e ∧ b0 = headF m cl + sizeF (packF m) (e - k) + B e ∧ 1 ≤ b1 ∧ b1 ≤ (bs.length : Int) - k ∧ b2 = (e : Int) - k ∧ b3 = (m : Int))

theorem PB.mono {bs : List Int} {cl k : Nat} {B : Nat → Int} {D D' : Nat → Nat → Prop} {b0 b1 b2 b3 : Int} (h : PB bs cl k B D b0 b1 b2 b3) (hd : ∀ m e, isMode m → reach bs m k e → D' m e → D m e) : PB bs cl k B D' b0 b1 b2 b3 :=
  ⟨fun m e hm hr h1 => h.1 m e hm hr (hd m e hm hr h1), h.2⟩

/-- One more choice is looked at. -/
theorem PB.step {bs : List Int} {cl k : Nat} {B : Nat → Int} {D : Nat → Nat → Prop} {b0 b1 b2 b3 : Int} (h : PB bs cl k B D b0 b1 b2 b3) {m0 e0 : Nat} (hm0 : isMode m0) (hr0 : reach bs m0 k e0) {c0 c1 : Int} (hc0 : c0 = headF m0 cl + sizeF (packF m0) (e0 - k) + B e0) (hc1 : 1 ≤ c1 ∧ c1 ≤ (bs.length : Int) - k) :
    (b2 = 0 ∨ c0 ≤ b0 → PB bs cl k B (fun m e => D m e ∨ (m = m0 ∧ e = e0)) c0 c1 ((e0 : Int) - k) m0) ∧ (b2 ≠ 0 → b0 ≤ c0 → PB bs cl k B (fun m e => D m e ∨ (m = m0 ∧ e = e0)) b0 b1 b2 b3) := by
  have he := hr0.1
  constructor
  · intro hb
    refine ⟨fun m e hm hr hD => ⟨by omega, ?_⟩, .inr ⟨m0, e0, hm0, hr0, hc0, hc1.1, hc1.2, rfl, rfl⟩⟩
    rcases hD with hD | ⟨rfl, rfl⟩
    · have := h.1 m e hm hr hD
      omega
    · omega
  · intro h1 h2
    refine ⟨fun m e hm hr hD => ⟨h1, ?_⟩, h.2⟩
    rcases hD with hD | ⟨rfl, rfl⟩
    · exact (h.1 m e hm hr hD).2
    · omega

/-- All choices were looked at. -/
theorem PB.done {bs : List Int} {cl k : Nat} {B : Nat → Int} {D : Nat → Nat → Prop} {b0 b1 b2 b3 : Int} (h : PB bs cl k B D b0 b1 b2 b3) (hD : ∀ m e, isMode m → D m e) (hO : Opt cl bs B) (hk : k < bs.length) :
    b0 = B k ∧ 1 ≤ b1 ∧ b1 ≤ (bs.length : Int) - k ∧ 1 ≤ b2 ∧ b2 ≤ (bs.length : Int) - k ∧ 1 ≤ b3 ∧ b3 ≤ 4 := by
  have hr4 : reach bs 4 k (k + 1) := ⟨by omega, by omega, fun i _ _ => rfl⟩
  have h4 := (h.1 4 (k + 1) (.inr (.inr rfl)) hr4 (hD _ _ (.inr (.inr rfl)))).1
  rcases h.2 with h2 | ⟨m, e, hm, hr, e0, e1, e2, e3, e4⟩
  · exact absurd h2 h4
  · obtain ⟨m', e', hm', hr', he'⟩ := hO.ex k hk
    have a1 := hO.le k m e hm hr
    have a2 := (h.1 m' e' hm' hr' (hD _ _ hm')).2
    have := hr.1
    have := hr.2.1
    refine ⟨by omega, e1, e2, by omega, by omega, ?_, ?_⟩
    · rcases hm with rfl | rfl | rfl <;> omega
    · rcases hm with rfl | rfl | rfl <;> omega

def modeN (j : Nat) : Nat := if j = 0 then 1 else if j = 1 then 2 else 4
def modeB (j : Nat) : Nat := if j = 0 then 1 else if j = 1 then 2 else if j = 2 then 4 else 5

theorem modeB_zero {m : Nat} (hm : isMode m) : ¬ m < modeB 0 := by rcases hm with rfl | rfl | rfl <;> decide
theorem modeB_three {m : Nat} (hm : isMode m) : m < modeB 3 := by rcases hm with rfl | rfl | rfl <;> decide
theorem modeB_succ {m j : Nat} (hm : isMode m) (hj : j < 3) (h : m < modeB (j + 1)) : m < modeB j ∨ m = modeN j := by
  rcases (show j = 0 ∨ j = 1 ∨ j = 2 by omega) with rfl | rfl | rfl <;> rcases hm with rfl | rfl | rfl <;> revert h <;> decide
theorem modeN_is {j : Nat} (hj : j < 3) : isMode (modeN j) := by
  rcases (show j = 0 ∨ j = 1 ∨ j = 2 by omega) with rfl | rfl | rfl
  · exact .inl rfl
  · exact .inr (.inl rfl)
  · exact .inr (.inr rfl)

/-- The choices of the rest, in memory. -/
structure RestR (w : World) (rb ro k n : Nat) (B S : Nat → Int) : Prop where
  c : ∀ e, k < e → e ≤ n → w.cell? ⟨rb, ro + e * 4, none⟩ = some (.int .i64 (B e)) ∧ w.cell? ⟨rb, ro + e * 4 + 1, none⟩ = some (.int .i64 (S e))
  b : ∀ e, k < e → e ≤ n → 0 ≤ B e ∧ B e ≤ 100000 ∧ 0 ≤ S e ∧ S e ≤ (n : Int) - e
  lt : rb < w.heap.size

theorem RestR.below {w w' : World} {rb ro k n : Nat} {B S : Nat → Int} (h : RestR w rb ro k n B S) (hb : Below w.heap.size w w') : RestR w' rb ro k n B S :=
  ⟨fun e h1 h2 => ⟨(hb.cell (p := ⟨rb, ro + e * 4, none⟩) h.lt).trans (h.c e h1 h2).1, (hb.cell (p := ⟨rb, ro + e * 4 + 1, none⟩) h.lt).trans (h.c e h1 h2).2⟩, h.b, Nat.lt_of_lt_of_le h.lt hb.size⟩

def FirstP (B : Nat → Int) (k n : Nat) (w : World) (e : Ending) (w' : World) : Prop :=
  (∃ b1 b2 b3 : Int, e = .returned (.agg #[.int .i64 (B k), .int .i64 b1, .int .i64 b2, .int .i64 b3]) ∧ 1 ≤ b1 ∧ b1 ≤ (n : Int) - k ∧ 1 ≤ b2 ∧ b2 ≤ (n : Int) - k ∧ 1 ≤ b3 ∧ b3 ≤ 4) ∧ Below w.heap.size w w'

theorem hi76 (s i t p : Value) : (Try.prog.info? 76).map (·.size) = some (#[s, i, t, p]).size := by kernel_rfl

/-- A choice is laid into a block of a choice. -/
theorem wpList_c76 {ops : Array Oper} {rest : List Oper} {o : Oper} {a : Act} {w : World} {Q : Exit → Act → World → Prop} (hgd : o.guard = none) (x y : Operand) (ho : o.op = .store 76 x y)
    (g : Nat) (b0 b1 b2 b3 : Int) (cs : Array Value) (hcs : cs.size = 4) (hx : a.eval x = .pointer (some ⟨g, 0, none⟩)) (hy : a.eval y = .agg #[.int .i64 b0, .int .i64 b1, .int .i64 b2, .int .i64 b3]) (hg : w.heap[g]? = some (.cells cs 76 (0, 0)))
    (h : wpList Try.prog ops Q rest (a.put o.dst undef) (w.setRow g #[.int .i64 b0, .int .i64 b1, .int .i64 b2, .int .i64 b3])) : wpList Try.prog ops Q (o :: rest) a w :=
  wpList_store_row hgd 76 x y ho g _ hx hy 76 _ hg (hi76 _ _ _ _) (by rw [hcs]; rfl) (by simp [Value.oneCell']) h

theorem res45 (tmps : Array Value) (w : World) (g : Nat) (s i t p : Value) (h8 : tmps.getD 8 undef = .pointer (some ⟨g, 0, none⟩)) (hg : w.heap[g]? = some (.cells #[s, i, t, p] 76 (0, 0))) :
    (results Try.f45 tmps).run Try.prog w = .ok (.agg #[s, i, t, p]) w := by
  have hl := run_loadVar_row (P := Try.prog) w g 76 76 #[s, i, t, p] (0, 0) _ hg Try.underlying76 rfl (by kernel_rfl)
  have h8' : tmps[8]?.getD undef = .pointer (some ⟨g, 0, none⟩) := by simpa using h8
  simp [results, Try.results45, h8', asAddr, hl]

set_option maxRecDepth 100000 in
set_option maxHeartbeats 8000000 in
theorem first_any (a : Option Addr) (n cap k cl : Nat) (rb ro rc : Nat) (bs : List Int) (B S : Nat → Int) (w : World) (h : RdU w a n bs) (hby : ∀ b ∈ bs, 0 ≤ b ∧ b < 256) (hn : n ≤ 255) (hk : k < n) (hc : cl < 3) (hO : Opt cl bs B) (hR : RestR w rb ro k n B S) :
    Calls Try.prog 45 #[.slice a n cap, .int .i64 k, .int .i64 cl, .slice (some ⟨rb, ro, none⟩) (n + 1) rc] w (FirstP B k n w) := by
  have H := Lib.hid h
  have HL := Lib.hid h.length
  have HBY := Lib.hid hby
  have HO := Lib.hid hO
  have HR := Lib.hid hR
  clear h hby hO hR
  have hblk1 : (((w.alloc (.cells #[.int .i64 0, .int .i64 0, .int .i64 0, .int .i64 0] 76)).alloc (.cells #[.int .i64 0, .int .i64 0, .int .i64 0, .int .i64 0] 76)).alloc (.cells #[.int .i64 1, .int .i64 2, .int .i64 4] 50)).heap[w.heap.size + 1]? = some (.cells #[.int .i64 0, .int .i64 0, .int .i64 0, .int .i64 0] 76 (0, 0)) := by
    rw [Below.heap_alloc _ _ _ (by simp)]
    have := World.alloc_heap_new (w.alloc (.cells #[.int .i64 0, .int .i64 0, .int .i64 0, .int .i64 0] 76)) (.cells #[.int .i64 0, .int .i64 0, .int .i64 0, .int .i64 0] 76)
    rwa [show (w.alloc (.cells #[.int .i64 0, .int .i64 0, .int .i64 0, .int .i64 0] 76)).heap.size = w.heap.size + 1 by simp] at this
  have hblk2 : (((w.alloc (.cells #[.int .i64 0, .int .i64 0, .int .i64 0, .int .i64 0] 76)).alloc (.cells #[.int .i64 0, .int .i64 0, .int .i64 0, .int .i64 0] 76)).alloc (.cells #[.int .i64 1, .int .i64 2, .int .i64 4] 50)).heap[w.heap.size + 1 + 1]? = some (.cells #[.int .i64 1, .int .i64 2, .int .i64 4] 50 (0, 0)) := by
    have := World.alloc_heap_new ((w.alloc (.cells #[.int .i64 0, .int .i64 0, .int .i64 0, .int .i64 0] 76)).alloc (.cells #[.int .i64 0, .int .i64 0, .int .i64 0, .int .i64 0] 76)) (.cells #[.int .i64 1, .int .i64 2, .int .i64 4] 50)
    rwa [show ((w.alloc (.cells #[.int .i64 0, .int .i64 0, .int .i64 0, .int .i64 0] 76)).alloc (.cells #[.int .i64 0, .int .i64 0, .int .i64 0, .int .i64 0] 76)).heap.size = w.heap.size + 1 + 1 by simp] at this
  have hblk0 : (((w.alloc (.cells #[.int .i64 0, .int .i64 0, .int .i64 0, .int .i64 0] 76)).alloc (.cells #[.int .i64 0, .int .i64 0, .int .i64 0, .int .i64 0] 76)).alloc (.cells #[.int .i64 1, .int .i64 2, .int .i64 4] 50)).heap[w.heap.size]? = some (.cells #[.int .i64 0, .int .i64 0, .int .i64 0, .int .i64 0] 76 (0, 0)) := by
    rw [Below.heap_alloc _ _ _ (by simp; omega), Below.heap_alloc _ _ _ (by simp)]
    exact World.alloc_heap_new w _
  have hB0 : Below w.heap.size w (((w.alloc (.cells #[.int .i64 0, .int .i64 0, .int .i64 0, .int .i64 0] 76)).alloc (.cells #[.int .i64 0, .int .i64 0, .int .i64 0, .int .i64 0] 76)).alloc (.cells #[.int .i64 1, .int .i64 2, .int .i64 4] 50)) := (((Below.refl _ _).alloc (Nat.le_refl _) _).alloc (by simp) _).alloc (by simp; omega) _
  have hS0 : (((w.alloc (.cells #[.int .i64 0, .int .i64 0, .int .i64 0, .int .i64 0] 76)).alloc (.cells #[.int .i64 0, .int .i64 0, .int .i64 0, .int .i64 0] 76)).alloc (.cells #[.int .i64 1, .int .i64 2, .int .i64 4] 50)).heap.size = w.heap.size + 3 := by simp
  go_enter Try.func45, Try.ntmps45
  go_wp2_with fail
  generalize ((w.alloc (.cells #[.int .i64 0, .int .i64 0, .int .i64 0, .int .i64 0] 76)).alloc (.cells #[.int .i64 0, .int .i64 0, .int .i64 0, .int .i64 0] 76)).alloc (.cells #[.int .i64 1, .int .i64 2, .int .i64 4] 50) = W0 at *
  go_loopg [11] 3 (fun r x wr => ∃ (j : Nat) (b0 b1 b2 b3 : Int), j + r = 3 ∧ x = .int .i64 j ∧ wr.heap[w.heap.size + 1]? = some (.cells #[.int .i64 b0, .int .i64 b1, .int .i64 b2, .int .i64 b3] 76 (0, 0)) ∧ Chg [w.heap.size + 1] W0 wr ∧ Hid (PB bs cl k B (fun m _ => m < modeB j) b0 b1 b2 b3))
  case atStart => exact ⟨0, 0, 0, 0, 0, rfl, rfl, hblk1, Chg.refl _ _, Lib.hid ⟨fun m e hm _ hD => absurd hD (modeB_zero hm), .inl rfl⟩⟩
  case round =>
    clear hblk1
    obtain ⟨j, b0, b1, b2, b3, hj, rfl, hbb, hC, hP⟩ := hrel
    have hCs := hC.size
    have hBw : Below w.heap.size w wr := hC.below hB0 (by omega) (by simp)
    by_cases hlt : j < 3
    · obtain ⟨wo, hwo⟩ : ∃ wo, wo = wr := ⟨_, rfl⟩
      subst hwo
      have hm2 : wo.heap[w.heap.size + 1 + 1]? = some (.cells #[.int .i64 1, .int .i64 2, .int .i64 4] 50 (0, 0)) := (hC.block _ (by omega) (by simp)).trans hblk2
      have hmc : wo.cell? ⟨w.heap.size + 1 + 1, j, none⟩ = some (.int .i64 (modeN j : Nat)) := by
        rcases (show j = 0 ∨ j = 1 ∨ j = 2 by omega) with rfl | rfl | rfl
        · exact cell_of_blk (j := 0) hm2 _ rfl
        · exact cell_of_blk (j := 1) hm2 _ rfl
        · exact cell_of_blk (j := 2) hm2 _ rfl
      have hmm : isMode (modeN j) := modeN_is hlt
      have q0 : (0 : Int) ≤ (j : Int) := by omega
      have q1 : (j : Int) < 3 := by omega
      have HMB : Hid (∀ m, isMode m → m < modeB (j + 1) → m < modeB j ∨ m = modeN j) := Lib.hid fun m hm h => modeB_succ hm hlt h
      obtain ⟨mj, hmj⟩ : ∃ mj, modeN j = mj := ⟨_, rfl⟩
      rw [hmj] at hmc hmm HMB
      clear hmj hm2
      go_wp2_with fail
      go_loopg [13] (n - k + 1) (fun r x wz => ∃ (q : Nat) (b0 b1 b2 b3 : Int), q + r = n - k + 2 ∧ 1 ≤ q ∧ x = .int .i64 q ∧ wz.heap[w.heap.size + 1]? = some (.cells #[.int .i64 b0, .int .i64 b1, .int .i64 b2, .int .i64 b3] 76 (0, 0)) ∧ Chg [w.heap.size + 1] W0 wz ∧ Hid (PB bs cl k B (fun m e => m < modeB j ∨ (m = mj ∧ e < k + q)) b0 b1 b2 b3) ∧ Hid (1 < q → reach bs mj k (k + q - 1)))
      case atStart => exact ⟨1, b0, b1, b2, b3, by omega, Nat.le_refl _, rfl, hbb, hC, Lib.hid (hP.out.mono fun m e hm hr hD => hD.elim id (fun h => absurd hr.1 (by omega))), Lib.hid (fun h => by omega)⟩
      case round =>
        clear hbb hC hP hCs hBw
        obtain ⟨q, b0, b1, b2, b3, hq, hq1, rfl, hbb, hC, hP, hRe⟩ := hrel
        have hCs := hC.size
        have hBw : Below w.heap.size w wr := hC.below hB0 (by omega) (by simp)
        have y0 := cell_of_blk (j := 0) hbb _ rfl
        have y1 := cell_of_blk (j := 1) hbb _ rfl
        have y2 := cell_of_blk (j := 2) hbb _ rfl
        have y3 := cell_of_blk (j := 3) hbb _ rfl
        have hlim := lim_255 hc hmm
        have HMO := Lib.hid (fun W => refMost_any mj cl W hmm hc)
        have hmo1 : limF mj cl ≤ 65535 := (lim_pos (m := mj) hc).2
        obtain ⟨lm, hlm⟩ : ∃ lm, limF mj cl = lm := ⟨_, rfl⟩
        simp only [hlm] at HMO
        rw [hlm] at hlim hmo1
        clear hlm
        by_cases hin : k + q ≤ n
        · obtain ⟨pb, po, c, rfl, hpc, hpd⟩ := (H.out.below hBw).at (k + q - 1) (by omega)
          have hcb := HBY.out c (List.mem_of_getElem? (getElem?_of_drop hpd))
          obtain ⟨c, rfl⟩ := Int.eq_ofNat_of_zero_le hcb.1
          have hgd : bs.getD (k + q - 1) 0 = (c : Int) := by rw [List.getD_eq_getElem?_getD, getElem?_of_drop hpd]; rfl
          have HFT := Lib.hid (fun W => refFits_any mj c W hmm (by omega))
          have i1 : ((k : Int) + (q : Int) - 1).toNat = k + q - 1 := by omega
          have i2 : (0 : Int) ≤ (k : Int) + (q : Int) - 1 := by omega
          have i3 : (k : Int) + (q : Int) - 1 < (n : Int) := by omega
          have d1 : decide ((k : Int) + (q : Int) ≤ (n : Int)) = true := by simp; omega
          have d2 : decide ((q : Int) ≤ (lm : Int)) = true := by simp; omega
          have HGD := Lib.hid hgd
          clear hpd hgd hcb
          cases hft : fitsM mj (c : Int) with
          | true =>
            simp only [hft] at HFT
            have hr0 : reach bs mj k (k + q) := ⟨by omega, by rw [HL.out]; exact hin, fun i hi hik => by
              rcases Nat.lt_or_ge i (k + q - 1) with h1 | h1
              · exact (hRe.out (by omega)).2.2 i hi h1
              · rw [show i = k + q - 1 by omega, HGD.out]; exact hft⟩
            have HSZ := Lib.hid (fun W => refSize_any mj cl q W hmm hc (by omega))
            have hsb := size_bnd hmm q
            have hhb := head_bnd (m := mj) hc
            obtain ⟨V, hV⟩ : ∃ V, headF mj cl + sizeF (packF mj) q = V := ⟨_, rfl⟩
            simp only [hV] at HSZ
            have hVb : 0 ≤ V ∧ V ≤ 10000 := by omega
            obtain ⟨⟨r0, r1⟩, hrb⟩ : ((wr.cell? ⟨rb, ro + (k + q) * 4, none⟩ = some (.int .i64 (B (k + q))) ∧ wr.cell? ⟨rb, ro + (k + q) * 4 + 1, none⟩ = some (.int .i64 (S (k + q))))) ∧ (0 ≤ B (k + q) ∧ B (k + q) ≤ 100000 ∧ 0 ≤ S (k + q) ∧ S (k + q) ≤ (n : Int) - ((k + q : Nat) : Int)) := ⟨(HR.out.below hBw).c (k + q) (by omega) hin, (HR.out.below hBw).b (k + q) (by omega) hin⟩
            have HPS := Lib.hid (hP.out.step hmm hr0 (c0 := V + B (k + q)) (c1 := 1 + S (k + q)) (by rw [← hV, show k + q - k = q by omega]) ⟨by omega, by rw [HL.out]; omega⟩)
            have HR0 := Lib.hid hr0
            obtain ⟨Bq, hBq⟩ : ∃ Bq, B (k + q) = Bq := ⟨_, rfl⟩
            obtain ⟨Sq, hSq⟩ : ∃ Sq, S (k + q) = Sq := ⟨_, rfl⟩
            rw [hBq] at r0 hrb HPS
            rw [hSq] at r1 hrb HPS
            have i4 : ((k : Int) + (q : Int)).toNat = k + q := by omega
            have i5 : (0 : Int) ≤ (k : Int) + (q : Int) := by omega
            have i6 : (k : Int) + (q : Int) < (n : Int) + 1 := by omega
            have w1 : IntKind.i64.wrap ((k : Int) + (q : Int)) = (k : Int) + (q : Int) := IntWalk.i64_in _ (by omega)
            have w2 : IntKind.i64.wrap (V + Bq) = V + Bq := IntWalk.i64_in _ (by omega)
            have w3 : IntKind.i64.wrap (1 + Sq) = 1 + Sq := IntWalk.i64_in _ (by omega)
            clear hr0 hV hBq hSq hP hft hsb hhb
            go_wp2_with fail
            refine (HMO.out _).mono ?_
            rintro e w5 ⟨rfl, rfl⟩
            go_wp2_with fail
            refine (HFT.out _).mono ?_
            rintro e w5 ⟨rfl, rfl⟩
            go_wp2_with fail
            go_region_held3 (fun w' => w'.cell? ⟨rb, ro + (k + q) * 4, none⟩ = some (.int .i64 Bq) ∧ w'.cell? ⟨rb, ro + (k + q) * 4 + 1, none⟩ = some (.int .i64 Sq)) (go_keep)
              ((go_at_call 66; refine (HSZ.out _).mono ?_; rintro re w5 ⟨rfl, rfl⟩))
            all_goals
              have hnew := World.alloc_heap_new wr (.cells #[.int .i64 (V + Bq), .int .i64 (1 + Sq), .int .i64 q, .int .i64 mj] 76)
              have hg1 : w.heap.size + 1 < wr.heap.size := (Array.getElem?_eq_some_iff.1 hbb).1
              have hbb5 : (wr.alloc (.cells #[.int .i64 (V + Bq), .int .i64 (1 + Sq), .int .i64 q, .int .i64 mj] 76)).drew.heap[w.heap.size + 1]? = some (.cells #[.int .i64 b0, .int .i64 b1, .int .i64 b2, .int .i64 b3] 76 (0, 0)) := (Below.heap_alloc _ _ _ hg1).trans hbb
              have hnew5 : (wr.alloc (.cells #[.int .i64 (V + Bq), .int .i64 (1 + Sq), .int .i64 q, .int .i64 mj] 76)).drew.heap[wr.heap.size]? = some (.cells #[.int .i64 (V + Bq), .int .i64 (1 + Sq), .int .i64 q, .int .i64 mj] 76 (0, 0)) := hnew
              have hC5 : Chg [w.heap.size + 1] W0 (wr.alloc (.cells #[.int .i64 (V + Bq), .int .i64 (1 + Sq), .int .i64 q, .int .i64 mj] 76)).drew := (hC.alloc _).drew
              have hs5 : (wr.alloc (.cells #[.int .i64 (V + Bq), .int .i64 (1 + Sq), .int .i64 q, .int .i64 mj] 76)).drew.heap.size = wr.heap.size + 1 := by show (wr.alloc _).heap.size = _; simp
              generalize (wr.alloc (.cells #[.int .i64 (V + Bq), .int .i64 (1 + Sq), .int .i64 q, .int .i64 mj] 76)).drew = w6 at *
              have x0 := cell_of_blk (j := 0) hbb5 _ rfl
              have x1 := cell_of_blk (j := 1) hbb5 _ rfl
              have x2 := cell_of_blk (j := 2) hbb5 _ rfl
              have x3 := cell_of_blk (j := 3) hbb5 _ rfl
              have z0 := cell_of_blk (j := 0) hnew5 _ rfl
              have z1 := cell_of_blk (j := 1) hnew5 _ rfl
              have z2 := cell_of_blk (j := 2) hnew5 _ rfl
              have z3 := cell_of_blk (j := 3) hnew5 _ rfl
              have HRN : Hid (1 < q + 1 → reach bs mj k (k + (q + 1) - 1)) := Lib.hid fun _ => HR0.out
              have HDD : Hid (∀ c0 c1 c2 c3, PB bs cl k B (fun m e => (m < modeB j ∨ (m = mj ∧ e < k + q)) ∨ (m = mj ∧ e = k + q)) c0 c1 c2 c3 → PB bs cl k B (fun m e => m < modeB j ∨ (m = mj ∧ e < k + (q + 1))) c0 c1 c2 c3) := Lib.hid fun c0 c1 c2 c3 h => h.mono fun m e hm hr hD => by
                rcases hD with hD | ⟨h1, h2⟩
                · exact .inl (.inl hD)
                · rcases Nat.lt_or_ge e (k + q) with h3 | h3
                  · exact .inl (.inr ⟨h1, h3⟩)
                  · exact .inr ⟨h1, by omega⟩
              have hkq : ((k + q : Nat) : Int) - (k : Int) = (q : Int) := by omega
              clear hnew y0 y1 y2 y3 r0 r1 hbb hC
              by_cases hb20 : b2 = 0
              · have e20 : (b2 == 0) = true := by simp [hb20]
                have hPN := HDD.out _ _ _ _ (HPS.out.1 (.inl hb20))
                rw [hkq] at hPN
                have HPN := Lib.hid hPN
                clear hPN
                go_wp2_with (refine wpList_c76 rfl (.tmp 9) (.tmp 84) rfl (w.heap.size + 1) _ _ _ _ _ rfl rfl rfl hbb5 ?_)
                go_roundg (n - k + 2 - (q + 1))
                case rel => exact ⟨q + 1, _, _, _, _, by omega, by omega, by go_num, setRow_heap _ _ _ _ _ _ hbb5, hC5.setRow (.inl (by simp)) _, HPN, HRN⟩
                case measure => omega
              · have e20 : (b2 == 0) = false := by simp [hb20]
                go_wp2_with fail
                refine (refBetter_any _ _ _ _ _ _ _ _ _).mono ?_
                rintro e w7 ⟨⟨r, rfl, h1, h2⟩, hb7⟩
                have hbb7 := (hb7.block _ (by omega)).trans hbb5
                have hnew7 := (hb7.block _ (by omega)).trans hnew5
                have hC7 := hC5.trans (Chg.of_below (S := [w.heap.size + 1]) hb7)
                clear x0 x1 x2 x3 z0 z1 z2 z3
                have z0 := cell_of_blk (j := 0) hnew7 _ rfl
                have z1 := cell_of_blk (j := 1) hnew7 _ rfl
                have z2 := cell_of_blk (j := 2) hnew7 _ rfl
                have z3 := cell_of_blk (j := 3) hnew7 _ rfl
                cases r with
                | true =>
                  have hPN := HDD.out _ _ _ _ (HPS.out.1 (.inr (h1 rfl)))
                  rw [hkq] at hPN
                  have HPN := Lib.hid hPN
                  clear hPN h1 h2
                  go_wp2_with (refine wpList_c76 rfl (.tmp 9) (.tmp 84) rfl (w.heap.size + 1) _ _ _ _ _ rfl rfl rfl hbb7 ?_)
                  go_roundg (n - k + 2 - (q + 1))
                  case rel => exact ⟨q + 1, _, _, _, _, by omega, by omega, by go_num, setRow_heap _ _ _ _ _ _ hbb7, hC7.setRow (.inl (by simp)) _, HPN, HRN⟩
                  case measure => omega
                | false =>
                  have HPN := Lib.hid (HDD.out _ _ _ _ (HPS.out.2 hb20 (h2 rfl)))
                  clear h1 h2
                  go_wp2_with fail
                  go_roundg (n - k + 2 - (q + 1))
                  case rel => exact ⟨q + 1, b0, b1, b2, b3, by omega, by omega, by go_num, hbb7, hC7, HPN, HRN⟩
                  case measure => omega
          | false =>
            simp only [hft] at HFT
            have hno : ∀ e, reach bs mj k e → e < k + q := fun e hr => Nat.lt_of_not_le fun hle => by
              have := hr.2.2 (k + q - 1) (by omega) (by omega)
              rw [HGD.out, hft] at this
              cases this
            have HP2 : Hid (PB bs cl k B (fun m _ => m < modeB (j + 1)) b0 b1 b2 b3) := Lib.hid (hP.out.mono fun m e hm hr hD => by
              rcases HMB.out m hm hD with h1 | h1
              · exact .inl h1
              · subst h1; exact .inr ⟨rfl, hno e hr⟩)
            clear hno hP hft
            go_wp2_with fail
            refine (HMO.out _).mono ?_
            rintro e w5 ⟨rfl, rfl⟩
            go_wp2_with fail
            refine (HFT.out _).mono ?_
            rintro e w5 ⟨rfl, rfl⟩
            go_wp2_with fail
            go_roundg (3 - (j + 1))
            case rel => exact ⟨j + 1, b0, b1, b2, b3, by omega, by go_num, hbb, hC, HP2⟩
            case measure => omega
        · have hno : ∀ e, reach bs mj k e → e < k + q := fun e hr => by
            have := hr.2.1
            rw [HL.out] at this
            omega
          have HP2 : Hid (PB bs cl k B (fun m _ => m < modeB (j + 1)) b0 b1 b2 b3) := Lib.hid (hP.out.mono fun m e hm hr hD => by
            rcases HMB.out m hm hD with h1 | h1
            · exact .inl h1
            · subst h1; exact .inr ⟨rfl, hno e hr⟩)
          have d1 : decide ((k : Int) + (q : Int) ≤ (n : Int)) = false := by simp; omega
          clear hno hP
          go_wp2_with fail
          go_roundg (3 - (j + 1))
          case rel => exact ⟨j + 1, b0, b1, b2, b3, by omega, by go_num, hbb, hC, HP2⟩
          case measure => omega
    · obtain rfl : j = 3 := by omega
      have hdone := hP.out.done (fun m e hm => modeB_three hm) HO.out (by rw [HL.out]; exact hk)
      rw [HL.out] at hdone
      obtain ⟨rfl, hdone⟩ := hdone
      have h0r := (hC.block w.heap.size (by omega) (by simp)).trans hblk0
      have y0 := cell_of_blk (j := 0) hbb _ rfl
      have y1 := cell_of_blk (j := 1) hbb _ rfl
      have y2 := cell_of_blk (j := 2) hbb _ rfl
      have y3 := cell_of_blk (j := 3) hbb _ rfl
      clear hP
      go_wp2_with (refine wpList_c76 rfl (.tmp 8) (.tmp 85) rfl w.heap.size _ _ _ _ _ rfl rfl rfl h0r ?_)
      refine bodyPost_ret (res45 _ _ w.heap.size (.int .i64 (B k)) (.int .i64 b1) (.int .i64 b2) (.int .i64 b3) rfl (setRow_heap _ _ _ _ _ _ h0r)) rfl ?_
      exact ⟨⟨b1, b2, b3, rfl, hdone⟩, below_setRow hBw (Nat.le_refl _) _⟩

end Go.Proofs.Ytifgpjhodajccaa
