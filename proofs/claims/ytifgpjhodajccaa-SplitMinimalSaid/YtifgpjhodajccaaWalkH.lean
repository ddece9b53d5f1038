/-
  The walk of modes.Best: its bits. Condition: the slice's length is at most its capacity.
-/
import Derived.Test.YtifgpjhodajccaaWalkG
import Derived.Test.YtifgpjhodajccaaOwn
import Derived.Laws.CopyOwn
namespace Go.Proofs.Ytifgpjhodajccaa
open Go.RowKit

theorem info87 : ∃ i, Try.prog.info? 87 = some i ∧ i.zero = some (.agg #[.int .i64 0, .int .i64 0, .int .i64 0, .int .i64 0]) ∧ i.size = 4 ∧ i.bytes = 32 := by
  cases h : Try.prog.info? 87 with
  | none => have := size87; rw [h] at this; cases this
  | some i =>
    have e1 : (Try.prog.info? 87).bind (·.zero) = some (.agg #[.int .i64 0, .int .i64 0, .int .i64 0, .int .i64 0]) := by kernel_rfl
    have e2 := size87
    have e3 : (Try.prog.info? 87).map (·.bytes) = some 32 := by kernel_rfl
    rw [h] at e1 e2 e3
    exact ⟨i, rfl, by simpa using e1, by simpa using e2, by simpa using e3⟩

theorem info5 : (Try.prog.info? 5).map (fun i => (i.zero, i.size, i.bytes)) = some (some (.int .u8 0), 1, 1) := by kernel_rfl
theorem info52 : (Try.prog.info? 52).map (fun i => (i.zero, i.size, i.bytes)) = some (some (.agg #[.int .i64 0, .slice none 0 0]), 2, 32) := by kernel_rfl

def pick3 (x y z : Nat) (j : Nat) : Nat := if j = 0 then x else if j = 1 then y else z

/-- The memory of Best at its beginning. -/
theorem best_start {w wa w1 w2 w3 : World} {g0 e0 g1 e1 g2 e2 cl n : Nat} (hT : TabW wa w.heap.size ((n + 1) * 4) (fun _ => 0)) (hsa : wa.heap.size = w.heap.size + 1)
    (h0 : WinW w1 g0 e0 1 cl n Wq.nil 0) (l0 : wa.heap.size ≤ g0) (l0' : wa.heap.size ≤ e0) (b0 : Below wa.heap.size wa w1)
    (h1 : WinW w2 g1 e1 2 cl n Wq.nil 0) (l1 : w1.heap.size ≤ g1) (l1' : w1.heap.size ≤ e1) (b1 : Below w1.heap.size w1 w2)
    (h2 : WinW w3 g2 e2 4 cl n Wq.nil 0) (l2 : w2.heap.size ≤ g2) (l2' : w2.heap.size ≤ e2) (b2 : Below w2.heap.size w2 w3) :
    BestW w3 w.heap.size w.heap.size (pick3 g0 g1 g2) (pick3 e0 e1 e2) cl n n (planAt [Pl.zero] n) (fun _ => Wq.nil) (fun _ => 0) := by
  have s0 := h0.lt; have s1 := h1.lt; have s2 := h2.lt
  have z0 := b0.size; have z1 := b1.size; have z2 := b2.size
  have n0 := h0.ne; have n1 := h1.ne; have n2 := h2.ne
  have t3 : TabW w3 w.heap.size ((n + 1) * 4) (fun _ => 0) := ((hT.below b0).below b1).below b2
  refine ⟨⟨t3.lt, fun e he hen => ?_⟩, fun j hj => ⟨?_, t3.froz _⟩, fun j hj => ?_, ⟨?_, ?_, ?_, ?_, ?_⟩, Nat.le_refl _, ?_, ?_⟩
  · obtain rfl : e = n := by omega
    have hz : planAt [Pl.zero] e e = Pl.zero := by unfold planAt; simp
    rw [hz]
    exact ⟨t3.cell _ (by omega), t3.cell _ (by omega), t3.cell _ (by omega), t3.cell _ (by omega)⟩
  · rw [t3.cell _ (by omega)]; rfl
  · match j, hj with
    | 0, _ => exact (h0.chg (S := []) (Chg.of_below b1) (by simp) (by simp)).chg (S := []) (Chg.of_below b2) (by simp) (by simp)
    | 1, _ => exact h1.chg (S := []) (Chg.of_below b2) (by simp) (by simp)
    | 2, _ => exact h2
  all_goals unfold pick3
  · intro j hj; (repeat' split) <;> omega
  · intro j hj; (repeat' split) <;> omega
  · intro i j hi hj hij; (repeat' split) <;> omega
  · intro i j hi hj hij; (repeat' split) <;> omega
  · intro i j hi hj; (repeat' split) <;> omega
  · intro j hj; (repeat' split) <;> omega
  · intro j hj; (repeat' split) <;> omega

theorem index85 (g0 g1 g2 k : Nat) (hk : k < 3) (W : World) : (Instr.index 85 (.agg #[.pointer (some ⟨g0, 0, none⟩), .pointer (some ⟨g1, 0, none⟩), .pointer (some ⟨g2, 0, none⟩)]) (.int .i64 (k : Int))).run Try.prog W = .ok (.pointer (some ⟨pick3 g0 g1 g2 k, 0, none⟩)) W := by
  rcases (show k = 0 ∨ k = 1 ∨ k = 2 by omega) with rfl | rfl | rfl
  · kernel_rfl
  · kernel_rfl
  · kernel_rfl

def wsF (s : Bst) (j : Nat) : Wq := if j = 0 then s.w1 else if j = 1 then s.w2 else s.w4

/-- The best plan behind the first k modes, and the windows behind them. -/
def bestB (cl : Nat) (c : Int) (P : Nat → Pl) (p : Nat) (s : Bst) : Nat → Pl
  | 0 => ⟨maxI, 0, 0, 0⟩
  | 1 => (modeF 1 cl c P p (s.w1, ⟨maxI, 0, 0, 0⟩)).2
  | 2 => (modeF 2 cl c P p (s.w2, (modeF 1 cl c P p (s.w1, ⟨maxI, 0, 0, 0⟩)).2)).2
  | _ => (modeF 4 cl c P p (s.w4, (modeF 2 cl c P p (s.w2, (modeF 1 cl c P p (s.w1, ⟨maxI, 0, 0, 0⟩)).2)).2)).2
def newW (cl : Nat) (c : Int) (P : Nat → Pl) (p : Nat) (s : Bst) : Nat → Wq
  | 0 => (modeF 1 cl c P p (s.w1, ⟨maxI, 0, 0, 0⟩)).1
  | 1 => (modeF 2 cl c P p (s.w2, (modeF 1 cl c P p (s.w1, ⟨maxI, 0, 0, 0⟩)).2)).1
  | _ => (modeF 4 cl c P p (s.w4, (modeF 2 cl c P p (s.w2, (modeF 1 cl c P p (s.w1, ⟨maxI, 0, 0, 0⟩)).2)).2)).1

theorem stage (cl : Nat) (c : Int) (P : Nat → Pl) (p : Nat) (s : Bst) {k : Nat} (hk : k < 3) : modeF (mo k) cl c P p (wsF s k, bestB cl c P p s k) = (newW cl c P p s k, bestB cl c P p s (k + 1)) := by
  match k, hk with
  | 0, _ => rfl
  | 1, _ => rfl
  | 2, _ => rfl
theorem stage_all (cl : Nat) (c : Int) (p : Nat) (s : Bst) : stepB cl c p s = ⟨bestB cl c (planAt s.ps (p + 1)) p s 3 :: s.ps, newW cl c (planAt s.ps (p + 1)) p s 0, newW cl c (planAt s.ps (p + 1)) p s 1, newW cl c (planAt s.ps (p + 1)) p s 2⟩ := rfl

theorem best_ok {n cl p : Nat} {c : Int} {s : Bst} (hcl : cl < 3) (hp : p < n) (h : okB n (p + 1) s) : ∀ k, k ≤ 3 → okBest n p (bestB cl c (planAt s.ps (p + 1)) p s k)
  | 0, _ => .inl rfl
  | k + 1, hk => by
    have ih := best_ok (c := c) hcl hp h k (by omega)
    have hst := stage cl c (planAt s.ps (p + 1)) p s (show k < 3 by omega)
    have hw : okW n (p + 1) (wsF s k) := by
      unfold wsF
      split
      · exact h.2.2.1
      split
      · exact h.2.2.2.1
      · exact h.2.2.2.2
    have := (modeF_ok (c := c) (mo_mode k) hcl hp (fun e he hen => h.2.1 e he hen) (s := (wsF s k, bestB cl c (planAt s.ps (p + 1)) p s k)) hw ih).2
    rw [hst] at this
    exact this

set_option maxRecDepth 100000 in
set_option maxHeartbeats 8000000 in
theorem best_any (a : Option Addr) (n cap cl : Nat) (bs : List Int) (w : World) (h : RdU w a n bs) (hby : ∀ b ∈ bs, 0 ≤ b ∧ b < 256) (hcl : cl < 3) (hn : n ≤ 4096) (hcap : n ≤ cap) (hcap2 : cap ≤ 9223372036854775807) :
    Calls Try.prog 41 #[.slice a n cap, .int .i64 cl] w fun e w' => ∃ v, e = .returned (.tuple #[v, .int .i64 (bitsF cl bs), .int .i64 0]) ∧ Below w.heap.size w w' := by
  have H := Lib.hid h; have HL := Lib.hid h.length; have HBY := Lib.hid hby; clear h hby
  obtain ⟨wa, hmk, hT, hBa, hsa⟩ : ∃ wa, (Instr.makeSlice 82 (.int .i64 ((n : Int) + 1)) (.int .i64 ((n : Int) + 1))).run Try.prog w = .ok (.slice (some ⟨w.heap.size, 0, none⟩) (n + 1) (n + 1)) wa ∧ Hid (TabW wa w.heap.size ((n + 1) * 4) (fun _ => 0)) ∧ Below w.heap.size w wa ∧ wa.heap.size = w.heap.size + 1 := by
    obtain ⟨i, hi, hz, hs, hb⟩ := info87
    have := run_make (P := Try.prog) w 82 87 i _ Try.underlying82 hi hz .i64 .i64 ((n : Int) + 1) ((n : Int) + 1) (by omega) (by omega) (by rw [hb]; omega) (by omega)
    rw [hs, show ((n : Int) + 1).toNat = n + 1 by omega] at this
    exact ⟨_, this, made_tab w _ 87 (n + 1) 4 (by omega) rfl, (Below.refl _ w).alloc (Nat.le_refl _) _, by simp⟩
  have HNW := Lib.hid (fun m (hm : isMode m) W => newWindow_any m cl n W hm hcl (by omega))
  go_enter Try.func41, Try.ntmps41
  go_wp2_with fail
  refine (HNW.out 1 (.inl rfl) _).mono ?_
  rintro e w1 ⟨g0, e0, rfl, hw0, l0, l0', b0⟩
  go_wp2_with fail
  refine (HNW.out 2 (.inr (.inl rfl)) _).mono ?_
  rintro e w2 ⟨g1, e1, rfl, hw1, l1, l1', b1⟩
  go_wp2_with fail
  refine (HNW.out 4 (.inr (.inr rfl)) _).mono ?_
  rintro e w3 ⟨g2, e2, rfl, hw2, l2, l2', b2⟩
  have hst := best_start hT.out hsa hw0 l0 l0' b0 hw1 l1 l1' b1 hw2 l2 l2' b2
  have hB3 : Below w.heap.size w w3 := ((hBa.trans (b0.mono (by omega))).trans (b1.mono (by have := b0.size; omega))).trans (b2.mono (by have := b0.size; have := b1.size; omega))
  have HST := Lib.hid hst
  clear hst hw0 hw1 hw2 HNW hT hmk l0 l0' b0 l1 l1' b1 l2 l2' b2 hBa hsa
  go_wp2_with fail
  obtain ⟨gA, hgA⟩ : ∃ gA, w3.heap.size = gA := ⟨_, rfl⟩
  have hlt3 : ∀ j, j < 3 → pick3 g0 g1 g2 j < gA ∧ pick3 e0 e1 e2 j < gA := fun j hj => by have := (HST.out.wins j hj).lt; omega
  have hAr : (w3.alloc (.cells #[.pointer (some ⟨g0, 0, none⟩), .pointer (some ⟨g1, 0, none⟩), .pointer (some ⟨g2, 0, none⟩)] 85)).heap[gA]? = some (.cells #[.pointer (some ⟨g0, 0, none⟩), .pointer (some ⟨g1, 0, none⟩), .pointer (some ⟨g2, 0, none⟩)] 85 (0, 0)) := by
    have := World.alloc_heap_new w3 (.cells #[.pointer (some ⟨g0, 0, none⟩), .pointer (some ⟨g1, 0, none⟩), .pointer (some ⟨g2, 0, none⟩)] 85)
    rw [hgA] at this; exact this
  have hlP : w.heap.size < gA := by have := HST.out.plans.lt; omega
  have hst4 := HST.out.chg (S := []) ((Chg.refl _ _).alloc (.cells #[.pointer (some ⟨g0, 0, none⟩), .pointer (some ⟨g1, 0, none⟩), .pointer (some ⟨g2, 0, none⟩)] 85)) (by simp)
  have hB4 := hB3.alloc hB3.size (.cells #[.pointer (some ⟨g0, 0, none⟩), .pointer (some ⟨g1, 0, none⟩), .pointer (some ⟨g2, 0, none⟩)] 85)
  have HLT := Lib.hid hlt3
  have HIX := Lib.hid (fun (k : Nat) (hk : k < 3) W => index85 g0 g1 g2 k hk W)
  have HS := Lib.hid hst4
  clear HST hst4 hlt3
  generalize pick3 g0 g1 g2 = gw at *
  generalize pick3 e0 e1 e2 = ge at *
  rw [hgA]
  go_loopg [10] n (fun r x wr => x = .int .i64 ((r : Int) - 1) ∧ r ≤ n ∧ Hid (BestW wr w.heap.size w.heap.size gw ge cl n r (planAt (bstF cl bs (n - r)).ps r) (wsF (bstF cl bs (n - r))) (fun _ => n - r)) ∧ wr.heap[gA]? = some (.cells #[.pointer (some ⟨g0, 0, none⟩), .pointer (some ⟨g1, 0, none⟩), .pointer (some ⟨g2, 0, none⟩)] 85 (0, 0)) ∧ Below w.heap.size w wr)
  case atStart =>
    refine ⟨by go_num, Nat.le_refl _, ?_, hAr, hB4⟩
    rw [Nat.sub_self]
    have e : wsF (bstF cl bs 0) = fun _ => Wq.nil := by funext j; unfold wsF bstF; (repeat' split) <;> rfl
    rw [e]
    exact HS
  case round =>
    clear HS hAr hB4 hB3 hgA
    obtain ⟨rfl, hr, hS, hAr, hBr⟩ := hrel
    have hlA : gA < wr.heap.size := (Array.getElem?_eq_some_iff.1 hAr).1
    cases gk with
    | zero =>
      have hok := bstF_ok hcl bs (by rw [HL.out]; omega) n (by rw [HL.out]; omega)
      rw [HL.out, Nat.sub_self] at hok
      rw [Nat.sub_zero] at hS
      have hbf : bitsF cl bs = (planAt (bstF cl bs n).ps 0 0).bits := by unfold bitsF; rw [HL.out]
      obtain ⟨P, hP⟩ : ∃ P, planAt (bstF cl bs n).ps 0 = P := ⟨_, rfl⟩
      rw [hP] at hS hbf
      have hokP : ∀ e, e ≤ n → okPl n e (P e) := fun e he => by rw [← hP]; exact hok.2.1 e (Nat.zero_le _) he
      have HPL := Lib.hid hS.out.plans
      have HOKP := Lib.hid hokP
      have HBF := Lib.hid hbf
      clear hok hbf hokP hP hS
      obtain ⟨u0, u1, _, _⟩ := HPL.out.cells 0 (Nat.le_refl _) (Nat.zero_le _)
      simp only [Nat.zero_mul, Nat.zero_add] at u0 u1
      have ho0 := HOKP.out 0 (Nat.zero_le _)
      unfold okPl at ho0
      obtain ⟨sg, hsg⟩ := Int.eq_ofNat_of_zero_le ho0.2.2.1
      have hsgn : sg ≤ n := by omega
      rw [hsg] at u1
      obtain ⟨i52, hi52, hz52a, hz52b, hz52c⟩ := info_parts info52
      obtain ⟨i5, hi5, hz5a, hz5b, hz5c⟩ := info_parts info5
      obtain ⟨wo, rfl⟩ : ∃ wo : World, wo = wr := ⟨_, rfl⟩
      have q1 : (0 : Int) < (n : Int) + 1 := by omega
      clear ho0 hsg
      go_wp2_with (at_make; refine wpList_make_own _ rfl _ _ 38 rfl wo.heap.size 52 i52 (.agg #[.int .i64 0, .slice none 0 0]) 2 Try.underlying38 hi52 hz52a hz52b _ _ _ sg rfl rfl rfl (by rw [hz52c]; omega) (by unfold maxLen; omega) (Nat.le_refl _) ?_)
      intro w0 hown0 hgrow0
      have hB0 : Below wo.heap.size wo w0 := (Below.refl _ wo).grown hgrow0 (Nat.le_refl _) (fun k e => by cases e)
      clear hgrow0
      go_wp2_with fail
      go_loopg [14, 15] n (fun r v x wr => ∃ (q k : Nat) (xs : List Value), q + r = n ∧ k ≤ q ∧ x = .int .i64 q ∧ wr.ownsRow wo.heap.size 52 2 v k xs ∧ Below wo.heap.size wo wr)
      case atStart => exact ⟨0, 0, [], by omega, Nat.le_refl _, rfl, hown0, hB0⟩
      case round =>
        clear hown0 hB0
        obtain ⟨q, k, xs, hq, hkq, rfl, hown, hB⟩ := hrel
        have hPw := HPL.out.chg (S := []) (Chg.of_below hB) (by simp)
        by_cases hqn : q < n
        · obtain ⟨c0, c1, c2, c3⟩ := hPw.cells q (Nat.zero_le _) (by omega)
          have hoq := HOKP.out q (by omega)
          unfold okPl at hoq
          obtain ⟨sz, hsz⟩ := Int.eq_ofNat_of_zero_le hoq.2.2.2.2.1
          obtain ⟨mm, hmm⟩ := Int.eq_ofNat_of_zero_le hoq.2.2.2.2.2.2.2.1
          have hsz1 : 1 ≤ sz := by have := hoq.2.2.2.2.2.2.1 hqn; omega
          have hszn : q + sz ≤ n := by omega
          rw [hsz] at c2
          rw [hmm] at c3
          clear hoq hsz hmm c0 c1
          have hrd := H.out.below (hBr.trans (hB.mono hBr.size))
          obtain ⟨b, off, z, rfl, _, _⟩ := hrd.at q hqn
          have HRD := Lib.hid hrd
          clear hrd
          have q0 : (0 : Int) ≤ (q : Int) := by omega
          have q2 : (q : Int) < (n : Int) + 1 := by omega
          have q3 : (q : Int) ≤ (q : Int) + (sz : Int) := by omega
          have q4 : (q : Int) + (sz : Int) ≤ (cap : Int) := by omega
          have w1 : IntKind.i64.wrap ((q : Int) + (sz : Int)) = (q : Int) + sz := IntWalk.i64_in _ (by omega)
          have hBs := hB.size
          have hqc : ¬ (q = cap) := by omega
          have hqc2 : ¬ (cap = q) := by omega
          go_wp2_with (at_builtin; refine wpList_append_own _ rfl _ _ 22 rfl wo.heap.size 5 i5 (.int .u8 0) 1 1 Try.underlying22 hi5 hz5a hz5b hz5c rfl (by decide) _ 0 [] rfl (World.ownsRow_nil _ _ _ _) ⟨b, off + q, none⟩ (q + sz - q) (cap - q) (((bs.drop q).take sz).map (Value.int .u8)) rfl ?c1 (rd_sub HRD.out q sz hszn) ?c2 ?c3 ?c4 ?c5 ?_)
          case c1 => have := HL.out; simp; omega
          case c2 => intro u hu; obtain ⟨x, _, rfl⟩ := List.mem_map.1 hu; rfl
          case c3 => unfold maxLen; omega
          case c4 => omega
          case c5 => exact hBs
          intro v1 w5 hown5 hgrow5 _
          have hB5 : Below wo.heap.size wo w5 := hB.grown hgrow5 hBs (fun k e => by cases e)
          have hown6 : w5.ownsRow wo.heap.size 52 2 u14 k xs := hown.kept hgrow5 (by cases hv : u14.ownBlock <;> simp [Value.ownBlock])
          have hown5' := own_congr hown5 (show _ = sz by omega) rfl
          obtain ⟨da, dc, rfl, _⟩ := own_rd hown5'
          clear hown5'
          have hPw5 := HPL.out.chg (S := []) (Chg.of_below hB5) (by simp)
          obtain ⟨_, _, c2', c3'⟩ := hPw5.cells q (Nat.zero_le _) (by omega)
          have e2 : (P q).size = (sz : Int) := by
            have := (hPw.cells q (Nat.zero_le _) (by omega)).2.2.1
            rw [c2] at this; injection this with h1; injection h1 with _ h2; exact h2.symm
          have e3 : (P q).mode = (mm : Int) := by
            have := (hPw.cells q (Nat.zero_le _) (by omega)).2.2.2
            rw [c3] at this; injection this with h1; injection h1 with _ h2; exact h2.symm
          rw [e2] at c2'
          rw [e3] at c3'
          have hB5s := hB5.size
          clear hgrow5 hown5 hown c2 c3 hPw hPw5 hB HRD
          go_wp2_with (at_builtin; refine wpList_append_own _ rfl _ _ 38 rfl wo.heap.size 52 i52 (.agg #[.int .i64 0, .slice none 0 0]) 2 32 Try.underlying38 hi52 hz52a hz52b hz52c rfl (by decide) _ _ _ rfl (hown6.alloc _) ⟨w5.heap.size, 0, none⟩ 1 1 [.int .i64 mm, .slice da sz dc] rfl rfl (cells_new2 _ _ _ (by simp)) (by simp [Value.oneCell']) ?c3 ?c4 ?c5 ?_)
          case c3 => unfold maxLen; omega
          case c4 => omega
          case c5 => simp; omega
          intro v2 w7 hown7 hgrow7 _
          have hB7 := below_app3 hB5 hB5s hown6 hgrow7
          have hPw7 := HPL.out.chg (S := []) (Chg.of_below hB7) (by simp)
          obtain ⟨_, _, c2', _⟩ := hPw7.cells q (Nat.zero_le _) (by omega)
          rw [e2] at c2'
          clear hgrow7 hown6
          go_wp2_with fail
          go_roundg (n - (q + sz))
          case rel => exact ⟨q + sz, k + 1, _, by omega, by omega, by go_num, hown7, hB7⟩
          case measure => omega
        · obtain rfl : q = n := by omega
          have hbits := (hPw.cells 0 (Nat.le_refl _) (Nat.zero_le _)).1
          simp only [Nat.zero_mul] at hbits
          go_wp2_with fail
          go_quiet (fail)
          go_wp2_with fail
          refine bodyPost_ret (results_tmp3 rfl _ _ _) rfl ?_
          rw [HBF.out]
          exact ⟨_, rfl, hBr.trans ((below_drewN hB _).mono hBr.size)⟩
    | succ p =>
      have hi1 : (((p + 1 : Nat) : Int) - 1) = (p : Int) := by omega
      rw [hi1]
      obtain ⟨b, off, c, rfl, hcell, hd⟩ := (H.out.below hBr).at p (by omega)
      have hcg : bs.getD p 0 = c := by rw [List.getD_eq_getElem?_getD, getElem?_of_drop hd]; rfl
      have hcb := HBY.out c (List.mem_of_getElem? (getElem?_of_drop hd))
      have hnext : bstF cl bs (n - p) = stepB cl c p (bstF cl bs (n - (p + 1))) := by
        rw [show n - p = (n - (p + 1)) + 1 by omega, bstF, HL.out, show n - (n - (p + 1) + 1) = p by omega, hcg]
      have hok := bstF_ok hcl bs (by rw [HL.out]; omega) (n - (p + 1)) (by rw [HL.out]; omega)
      rw [HL.out, show n - (n - (p + 1)) = p + 1 by omega] at hok
      have HN := Lib.hid hnext
      have HD := Lib.hid hd
      have HOK := Lib.hid hok
      clear hnext hok hcg hd hi1
      generalize bstF cl bs (n - (p + 1)) = s at *
      obtain ⟨P, hP⟩ : ∃ P, planAt s.ps (p + 1) = P := ⟨_, rfl⟩
      rw [hP] at hS
      have HPP := Lib.hid hP
      clear hP
      obtain ⟨gb, hgb⟩ : ∃ gb, wr.heap.size = gb := ⟨_, rfl⟩
      have hAr2 := (Below.heap_alloc wr (.cells #[.int .i64 9223372036854775807, .int .i64 0, .int .i64 0, .int .i64 0] 87) gA hlA).trans hAr
      have hbox : (wr.alloc (.cells #[.int .i64 9223372036854775807, .int .i64 0, .int .i64 0, .int .i64 0] 87)).heap[gb]? = some (.cells (plV (bestB cl c P p s 0)) 87 (0, 0)) := by
        have := World.alloc_heap_new wr (.cells #[.int .i64 9223372036854775807, .int .i64 0, .int .i64 0, .int .i64 0] 87)
        rw [hgb] at this; exact this
      have hS2 := hS.out.chg (S := []) ((Chg.refl _ _).alloc (.cells #[.int .i64 9223372036854775807, .int .i64 0, .int .i64 0, .int .i64 0] 87)) (by simp)
      have hB2 := hBr.alloc hBr.size (.cells #[.int .i64 9223372036854775807, .int .i64 0, .int .i64 0, .int .i64 0] 87)
      have hAcells := cell_of_blk (j := 0) hAr2 _ rfl
      have hAcells1 := cell_of_blk (j := 1) hAr2 _ rfl
      have hAcells2 := cell_of_blk (j := 2) hAr2 _ rfl
      have HS2 := Lib.hid hS2
      have HBS := Lib.hid hBr.size
      clear hS2 hS hcell
      go_wp2_with fail
      go_loopg [48] 3 (fun q x wr => ∃ k : Nat, k + q = 3 ∧ x = .int .i64 k ∧ Hid (BestW wr w.heap.size w.heap.size gw ge cl n (p + 1) P (fun j => if j < k then newW cl c P p s j else wsF s j) (fun j => if j < k then n - p else n - (p + 1))) ∧ wr.heap[gA]? = some (.cells #[.pointer (some ⟨g0, 0, none⟩), .pointer (some ⟨g1, 0, none⟩), .pointer (some ⟨g2, 0, none⟩)] 85 (0, 0)) ∧ wr.heap[gb]? = some (.cells (plV (bestB cl c P p s k)) 87 (0, 0)) ∧ Below w.heap.size w wr)
      case atStart =>
        refine ⟨0, rfl, rfl, ?_, hAr2, hbox, hB2⟩
        simp only [Nat.not_lt_zero, if_false]
        exact HS2
      case round =>
        clear hAr2 hbox hB2 hAcells hAcells1 hAcells2 HS2 hAr hBr
        obtain ⟨k, hk, rfl, hS, hAr, hbox, hBr⟩ := hrel
        have hlb : gb < wr.heap.size := (Array.getElem?_eq_some_iff.1 hbox).1
        by_cases hlt : k < 3
        · have hwin := hS.out.wins k hlt
          simp only [Nat.lt_irrefl, if_false] at hwin
          obtain ⟨m0, _, _, _, _, _, _, _, _⟩ := hwin.consts
          have hcell := (H.out.below hBr).cellI p (by omega) HD.out
          have hix := HIX.out k hlt
          have hfit := fun W => fits_any (mo k) c W (mo_mode k) (by omega) (by omega)
          have hstg := stage cl c P p s hlt
          have HSTG := Lib.hid hstg
          have HWIN := Lib.hid hwin
          clear hwin hstg
          cases hf : fitsM (mo k) c with
          | false =>
            simp only [hf] at hfit
            have HFIT := Lib.hid hfit
            have HF : Hid (fitsM (mo k) c = false) := hf
            clear hfit hf
            go_wp2_with fail
            go_quiet ((go_at_call 48; exact Calls.quiet_of_same ((HFIT.out _).mono fun _ _ h => ⟨h.1, h.2.symm⟩)))
            go_wp2_with fail
            refine (clear_any (gw k) (ge k) (mo k) cl n (n - (p + 1)) (wsF s k) _ (HWIN.out.drewN nq)).mono ?_
            rintro e w5 ⟨rfl, hw5, hc5⟩
            have hmf := HSTG.out
            unfold modeF at hmf
            rw [if_neg (by rw [HF.out]; simp)] at hmf
            have hm1 : newW cl c P p s k = Wq.nil := (congrArg Prod.fst hmf).symm
            have hm2 : bestB cl c P p s (k + 1) = bestB cl c P p s k := (congrArg Prod.snd hmf).symm
            have hS5 := (hS.out.chg (S := []) ((Chg.refl _ _).drewN nq) (by simp)).turn (Ws' := fun j => if j < k + 1 then newW cl c P p s j else wsF s j) (c' := fun j => if j < k + 1 then n - p else n - (p + 1)) hlt (hc5.mono (by simp))
              (by simp only [Nat.lt_succ_self, if_true]; rw [hm1]; exact hw5.mono (by omega)) (fun j hj hjk => by
                by_cases hjl : j < k
                · simp [hjl, show j < k + 1 by omega]
                · simp [hjl, show ¬ (j < k + 1) by omega])
            have hlt3 := HLT.out k hlt
            have hAr5 := (hc5.block gA (by show gA < wr.heap.size; omega) (by simp; omega)).trans hAr
            have hbox5 := (hc5.block gb (by show gb < wr.heap.size; omega) (by simp; omega)).trans hbox
            rw [← hm2] at hbox5
            have hB5 : Below w.heap.size w w5 := hc5.below (below_drewN hBr nq) (by have := hBr.size; exact this) (by simp; exact hS.out.lw k hlt)
            have HS5 := Lib.hid hS5
            clear hmf hm1 hm2 hS5 hw5 hc5
            go_wp2_with fail
            go_roundg (2 - k)
            case rel => exact ⟨k + 1, by omega, by go_num, HS5, hAr5, hbox5, hB5⟩
            case measure => omega
          | true =>
            simp only [hf] at hfit
            have HFIT := Lib.hid hfit
            have HF : Hid (fitsM (mo k) c = true) := hf
            clear hfit hf
            go_wp2_with fail
            go_quiet ((go_at_call 48; exact Calls.quiet_of_same ((HFIT.out _).mono fun _ _ h => ⟨h.1, h.2.symm⟩)))
            go_wp2_with fail
            have hokq : okW n (p + 1) (wsF s k) := by
              have hh := HOK.out
              unfold wsF
              split
              · exact hh.2.2.1
              split
              · exact hh.2.2.2.1
              · exact hh.2.2.2.2
            have hokP : ∀ x, p + 1 ≤ x → x ≤ n → okPl n x (P x) := fun x h1 h2 => by rw [← HPP.out]; exact HOK.out.2.1 x h1 h2
            have hpush := push_any (mo_mode k) (gw k) (ge k) w.heap.size n (n + 1) (n - (p + 1)) (p + 1) (wsF s k) P (wr.drewN nq) (HWIN.out.drewN nq) (hS.out.plans.chg (S := []) ((Chg.refl _ _).drewN nq) (by simp)) hokP hokq (by omega) (by omega) (by omega)
            simp only [Int.natCast_add, Int.natCast_one] at hpush
            have HPU := Lib.hid hpush
            have HOKQ := Lib.hid hokq
            have HOKP := Lib.hid hokP
            clear hpush hokq hokP
            refine HPU.out.mono ?_
            rintro e w5 ⟨rfl, hw5, hc5⟩
            clear HPU
            have hlt3 := HLT.out k hlt
            have hdp := hS.out.dist.pw k hlt
            have hS5p := hS.out.plans.chg (S := [gw k, ge k]) (((Chg.refl [gw k, ge k] wr).drewN nq).trans hc5) (by have h1 := hS.out.dist.pw k hlt; have h2 := hS.out.dist.pe k hlt; simp [h1, h2])
            have hbox5 := (hc5.block gb (by show gb < wr.heap.size; omega) (by simp; omega)).trans hbox
            have hbB := best_ok (c := c) hcl (by omega) HOK.out k (by omega)
            rw [HPP.out] at hbB
            have hcho := choose_any (mo_mode k) hcl (gw k) (ge k) w.heap.size n (n + 1) (n - (p + 1) + 1) p (pushF (mo k) P (p + 1) (wsF s k)) P (bestB cl c P p s k) w5 hw5 hS5p (fun x h1 h2 => HOKP.out x h1 h2) (push_ok HOKQ.out (by omega)) hbB (by omega) hdp
            have hmf := HSTG.out
            unfold modeF at hmf
            rw [if_pos HF.out] at hmf
            simp only at hmf
            rw [hmf] at hcho
            simp only at hcho
            have HCH := Lib.hid hcho
            have HC5 := Lib.hid hc5
            have v0 := cell_of_blk (j := 0) hbox5 _ rfl
            have v1 := cell_of_blk (j := 1) hbox5 _ rfl
            have v2 := cell_of_blk (j := 2) hbox5 _ rfl
            have v3 := cell_of_blk (j := 3) hbox5 _ rfl
            have hs5 := hc5.size
            clear hcho hmf hw5 hS5p hc5
            go_wp2_with fail
            refine HCH.out.mono ?_
            rintro e w6 ⟨rfl, hw6, hc6⟩
            have hc56 : Chg [gw k, ge k] (wr.drewN nq) w6 := HC5.out.trans (hc6.mono (by simp))
            have hS6 := (hS.out.chg (S := []) ((Chg.refl _ _).drewN nq) (by simp)).turn (Ws' := fun j => if j < k + 1 then newW cl c P p s j else wsF s j) (c' := fun j => if j < k + 1 then n - p else n - (p + 1)) hlt hc56
              (by simp only [Nat.lt_succ_self, if_true]; exact hw6.mono (by omega)) (fun j hj hjk => by
                by_cases hjl : j < k
                · simp [hjl, show j < k + 1 by omega]
                · simp [hjl, show ¬ (j < k + 1) by omega])
            have hAr6 := (hc56.block gA (by show gA < wr.heap.size; omega) (by simp; omega)).trans hAr
            have hbox6 := (hc56.block gb (by show gb < wr.heap.size; omega) (by simp; omega)).trans hbox
            have hB6 : Below w.heap.size w w6 := hc56.below (below_drewN hBr nq) (by have := hBr.size; exact this) (by simp; exact ⟨hS.out.lw k hlt, hS.out.le k hlt⟩)
            have HS6 := Lib.hid hS6
            have hgbn : w.heap.size ≤ gb := by have := HBS.out; omega
            clear hS6 hw6 hc6 hc56 v0 v1 v2 v3
            go_wp2_with (refine wpList_store_row rfl 87 (.tmp 11) (.tmp 72) rfl gb (plV (bestB cl c P p s (k + 1))) rfl rfl 87 _ hbox6 size87 rfl (one4 _ _ _ _) ?_)
            go_roundg (2 - k)
            case rel =>
              refine ⟨k + 1, by omega, by go_num, ?_, ?_, ?_, ?_⟩
              · exact Lib.hid (HS6.out.chg2 (S := [gb]) ((Chg.refl _ _).setRow (.inl (by simp)) _) (by simp; omega) (fun j hj => by have := HLT.out j hj; simp; omega))
              · exact (setRow_other _ _ _ _ (by omega)).trans hAr6
              · exact setRow_heap _ _ _ _ _ _ hbox6
              · exact below_setRow hB6 hgbn _
            case measure => omega
        · obtain rfl : k = 3 := by omega
          have v0 := cell_of_blk (j := 0) hbox _ rfl
          have v1 := cell_of_blk (j := 1) hbox _ rfl
          have v2 := cell_of_blk (j := 2) hbox _ rfl
          have v3 := cell_of_blk (j := 3) hbox _ rfl
          have q0 : (0 : Int) ≤ (p : Int) := by omega
          have q1 : (p : Int) < (n : Int) + 1 := by omega
          have ht : wr.there w.heap.size (p * 4) 4 := fun j hj => by
            have := hS.out.there (p * 4 + j) (by omega)
            simpa using this
          have hput := hS.out.put (P' := planAt (bestB cl c P p s 3 :: s.ps) p) (by omega) (fun e he => by rw [planAt_cons _ _ _ _ he, HPP.out])
          have hpp : planAt (bestB cl c P p s 3 :: s.ps) p p = bestB cl c P p s 3 := by unfold planAt; rw [Nat.sub_self]; rfl
          rw [hpp] at hput
          have hcg : Chg [w.heap.size] wr (wr.setCells w.heap.size (p * 4) [.int .i64 (bestB cl c P p s 3).bits, .int .i64 (bestB cl c P p s 3).segs, .int .i64 (bestB cl c P p s 3).size, .int .i64 (bestB cl c P p s 3).mode]) := Chg.setCells (.inl (by simp)) _ _ _ (Chg.refl _ _)
          have hAr7 := (hcg.block gA (by omega) (by simp; omega)).trans hAr
          have hB7 := hcg.below hBr hBr.size (by simp)
          have hcong := hput.congr (Ws' := wsF (bstF cl bs (n - p))) (c' := fun _ => n - p) (fun j hj => by
            rw [HN.out, stage_all, HPP.out]
            simp only [hj, if_true]
            match j, hj with
            | 0, _ => rfl
            | 1, _ => rfl
            | 2, _ => rfl) (fun j hj => by simp only [hj, if_true])
          have hps : planAt (bstF cl bs (n - p)).ps p = planAt (bestB cl c P p s 3 :: s.ps) p := by rw [HN.out, stage_all, HPP.out]
          rw [← hps] at hcong
          have HS7 := Lib.hid hcong
          clear hput hpp hcg hcong hps
          go_wp2_with (refine wpList_store_mid rfl 87 (.tmp 77) (.tmp 76) rfl w.heap.size (p * 4) (plV (bestB cl c P p s 3)) rfl rfl ht size87 (one4 _ _ _ _) ?_)
          go_roundg p
          case rel => exact ⟨by go_num, by omega, HS7, hAr7, hB7⟩
          case measure => omega

end Go.Proofs.Ytifgpjhodajccaa
