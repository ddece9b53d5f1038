/-
  The walk of Values of package code128. Condition: at most 2^40 characters.
-/
import Derived.Test.YtofedeokliljkaaPlainE
import Derived.Test.YtofedeokliljkaaWalkX
import Derived.Deep.LoopGhost
import Derived.Laws.CopyOwn
namespace Go.Proofs.Ytofedeokliljkaa
open Go.RowKit Go.Maps
set_option linter.unusedVariables false

theorem tab_look0 {w : World} {b : Nat} {F : Tab} (h : MapF Try.prog 57 w b (encF F)) (x y : Int) (hx : (Lit.int .i64 x).wf = true) (hy : (Lit.int .i64 y).wf = true) :
    (Instr.lookup 54 (.map (some b)) (.agg #[.int .i64 x, .int .i64 y]) false).run Try.prog w = .ok (.int .i64 ((F x y).getD 0)) w := by
  obtain ⟨l, hl⟩ := key57 x y hx hy
  have := h.look law57 Try.underlying54 (zero3 w) hl false
  rw [this]
  cases hF : F x y <;> simp [encF, encL, hF]

theorem tab_look1 {w : World} {b : Nat} {F : Tab} (h : MapF Try.prog 57 w b (encF F)) (x y r : Int) (hx : (Lit.int .i64 x).wf = true) (hy : (Lit.int .i64 y).wf = true) (hr : (F x y).getD 0 = r) :
    (Instr.lookup 54 (.map (some b)) (.agg #[.int .i64 x, .int .i64 y]) false).run Try.prog w = .ok (.int .i64 r) w := by subst hr; exact tab_look0 h x y hx hy

theorem start_eq {F : Tab} {c2 c3 c4 z : Int} (h2 : (F 0 2).getD 0 = c2) (h3 : (F 0 3).getD 0 = c3) (h4 : (F 0 4).getD 0 = c4)
    (h : z = if c3 < c2 then (if True ∧ c4 < c3 then 105 else 104) else (if True ∧ c4 < c2 then 105 else 103)) : z = startF F := by
  subst h
  unfold startF
  simp only [h2, h3, h4]
  by_cases hlt : c3 < c2
  · simp [hlt, h3]
  · simp [hlt, h2]

theorem badC_mem : ∀ {cs : List Int}, badC cs = false → ∀ c ∈ cs, 0 ≤ c ∧ c ≤ 500 := fun h c hc => by
  have := badC_ok h c hc
  unfold isCh at this; omega

theorem start_cost {cs : List Int} (hb : badC cs = false) (hn : cs.length ≤ 5000) {st : Int} (h2 : 2 ≤ st) (h4 : st ≤ 4) : ∃ f : Nat, costsF cs (0 : Nat) st = some (f : Int) := by
  obtain ⟨_, _, g2, g3, g4⟩ := costs_good cs hn (badC_ok hb) 0 (by omega)
  have b0 := rowAt_bnd cs 0
  unfold bndR at b0
  have hst : st = 2 ∨ st = 3 ∨ st = 4 := by omega
  rcases hst with rfl | rfl | rfl
  · exact ⟨(rowAt cs 0).a0.toNat, by rw [g2]; congr 1; omega⟩
  · exact ⟨(rowAt cs 0).a1.toNat, by rw [g3]; congr 1; omega⟩
  · exact ⟨(rowAt cs 0).a2.toNat, by rw [g4]; congr 1; omega⟩

theorem start_bound {cs : List Int} (hb : badC cs = false) (hn : cs.length ≤ 5000) {st : Int} (h2 : 2 ≤ st) (h4 : st ≤ 4) {f : Nat} (hf : costsF cs (0 : Nat) st = some (f : Int)) : f ≤ 15000 := by
  obtain ⟨_, _, g2, g3, g4⟩ := costs_good cs hn (badC_ok hb) 0 (by omega)
  have b0 := rowAt_bnd cs 0
  unfold bndR at b0
  have hst : st = 2 ∨ st = 3 ∨ st = 4 := by omega
  rcases hst with rfl | rfl | rfl
  · rw [g2] at hf; simp only [Option.some.injEq] at hf; omega
  · rw [g3] at hf; simp only [Option.some.injEq] at hf; omega
  · rw [g4] at hf; simp only [Option.some.injEq] at hf; omega

theorem end_zero {cs : List Int} (hb : badC cs = false) (hn : cs.length ≤ 5000) {k : Nat} (hk : k ≤ cs.length) (hk2 : cs.length ≤ k) {st : Int} (h0 : 0 ≤ st) (h4 : st ≤ 4) {f : Nat} (hf : costsF cs k st = some (f : Int)) : f = 0 := by
  obtain rfl : k = cs.length := by omega
  obtain ⟨g0, g1, g2, g3, g4⟩ := costs_good cs hn (badC_ok hb) cs.length hk
  have e : rowAt cs cs.length = R6.zero := rowAt_end cs _ (Nat.le_refl _)
  rw [e] at g2 g3 g4
  have hst : st = 0 ∨ st = 1 ∨ st = 2 ∨ st = 3 ∨ st = 4 := by omega
  rcases hst with rfl | rfl | rfl | rfl | rfl
  · rw [g0, if_neg (by omega)] at hf; cases hf
  · rw [g1, if_neg (by omega)] at hf; cases hf
  · rw [g2] at hf; simp [R6.zero] at hf; omega
  · rw [g3] at hf; simp [R6.zero] at hf; omega
  · rw [g4] at hf; simp [R6.zero] at hf; omega

theorem own_below {w w' : World} {B e s n : Nat} {v : Value} {xs : List Value} (h : w.ownsRow B e s v n xs) (hb : Below w.heap.size w w') : w'.ownsRow B e s v n xs := by
  obtain ⟨h1, h2⟩ := h
  refine ⟨h1, ?_⟩
  rcases h2 with h2 | ⟨g, cap, cur, e1, e2, hg, e3⟩
  · exact .inl h2
  · exact .inr ⟨g, cap, cur, e1, e2, (hb.block g (Array.getElem?_eq_some_iff.1 hg).1).trans hg, e3⟩

theorem own_lt_ne {w : World} {B e s n : Nat} {v : Value} {xs : List Value} (h : w.ownsRow B e s v n xs) : v.ownBlock ≠ some w.heap.size := by
  rcases h.2 with ⟨rfl, _⟩ | ⟨g, cap, cur, rfl, _, hg, _⟩
  · simp [Value.ownBlock]
  · have := (Array.getElem?_eq_some_iff.1 hg).1
    intro e
    have e' : g = w.heap.size := by simpa [Value.ownBlock] using e
    omega

theorem froz3 {w : World} {b : Nat} {c : Array Value} {t : TypeId} (h : w.heap[b]? = some (.cells c t (0, 0))) : w.frozen? ⟨b, 0, none⟩ = false ∧ w.frozen? ⟨b, 1, none⟩ = false ∧ w.frozen? ⟨b, 2, none⟩ = false := by
  simp [World.frozen?, h]

theorem own_setRow {w : World} {B e s n b : Nat} {v : Value} {xs : List Value} (h : w.ownsRow B e s v n xs) (hne : v.ownBlock ≠ some b) (cs : Array Value) : (w.setRow b cs).ownsRow B e s v n xs := by
  obtain ⟨h1, h2⟩ := h
  refine ⟨h1, ?_⟩
  rcases h2 with h2 | ⟨g, cap, cur, rfl, e2, hg, e3⟩
  · exact .inl h2
  · refine .inr ⟨g, cap, cur, rfl, e2, (setRow_other _ _ _ _ ?_).trans hg, e3⟩
    intro e; subst e; exact hne rfl

theorem own_base_ne {w : World} {B e s n b : Nat} {v : Value} {xs : List Value} (h : w.ownsRow B e s v n xs) (hb : b < B) : v.ownBlock ≠ some b := by
  rcases h.2 with ⟨rfl, _⟩ | ⟨g, cap, cur, rfl, h1, _⟩
  · simp [Value.ownBlock]
  · intro e
    have e' : g = b := by simpa [Value.ownBlock] using e
    omega

theorem own_type_ne {w : World} {B e s n b t : Nat} {v : Value} {xs : List Value} {c : Array Value} {fr : Nat × Nat} (h : w.ownsRow B e s v n xs) (hb : w.heap[b]? = some (.cells c t fr)) (ht : t ≠ e) : v.ownBlock ≠ some b := by
  rcases h.2 with ⟨rfl, _⟩ | ⟨g, cap, cur, rfl, _, hg, _⟩
  · simp [Value.ownBlock]
  · intro e
    have e' : g = b := by simpa [Value.ownBlock] using e
    rw [e', hb] at hg
    cases hg
    exact ht rfl

theorem map_ne {P : Program} {k : TypeId} {w : World} {b g t : Nat} {f : Value → Option Value} {c : Array Value} {fr : Nat × Nat} (h : MapF P k w b f) (hg : w.heap[g]? = some (.cells c t fr)) : b ≠ g := by
  rintro rfl
  obtain ⟨es, clock, hb, _⟩ := h
  rw [hb] at hg; cases hg

theorem one3 (x y z : Int) : (#[Value.int .i64 x, .int .i64 y, .int .i64 z].all (·.oneCell')) = true := by simp [Value.oneCell']
theorem one2 (x y : Int) : (#[Value.int .i64 x, .int .i64 y].all (·.oneCell')) = true := by simp [Value.oneCell']
theorem size59 : (Try.prog.info? 59).map (·.size) = some 3 := by kernel_rfl
theorem size57 : (Try.prog.info? 57).map (·.size) = some 2 := by kernel_rfl

theorem moves_val {cs : List Int} (hch : ∀ c ∈ cs, isCh c) {k : Nat} (hk : k < cs.length) {st : Int} (h0 : 0 ≤ st) (h4 : st ≤ 4) {m : Mv} (hm : m ∈ movesL cs k st) : 0 ≤ m.v ∧ m.v ≤ 102 := by
  have hc : isCh (cs.getD k 0) := hch _ (by simp [hk])
  revert hm
  unfold movesL tailM ownV
  simp only
  generalize cs.getD k 0 = c at *
  generalize cs.getD (k + 1) 0 = c' at *
  unfold isCh at hc
  have hd : (k + 1 < cs.length ∧ digB c = true ∧ digB c' = true) → 0 ≤ 10 * (c - 48) + c' - 48 ∧ 10 * (c - 48) + c' - 48 ≤ 102 := by
    unfold digB; simp only [decide_eq_true_eq]; omega
  have hv : ∀ s, (valF c s).2 = true → 0 ≤ (valF c s).1 ∧ (valF c s).1 ≤ 300 := by
    intro s; unfold valF; repeat' split
    all_goals simp
    all_goals omega
  have hv2 : ∀ s, (valF c s).2 = true → (valF c s).1 ≤ 102 := by
    intro s; unfold valF; repeat' split
    all_goals simp
    all_goals omega
  have hf : ∀ s, 0 ≤ (funF c s).1 ∧ (funF c s).1 ≤ 102 := by
    intro s; unfold funF; repeat' split
    all_goals simp
  have h2 := hv 2; have h3 := hv 3; have h4' := hv 4; have g2 := hv2 2; have g3 := hv2 3; have g4 := hv2 4
  have f2 := hf 2; have f3 := hf 3; have f4 := hf 4
  clear hv hv2 hf
  generalize valF c 2 = v2 at *
  generalize valF c 3 = v3 at *
  generalize valF c 4 = v4 at *
  generalize funF c 2 = w2 at *
  generalize funF c 3 = w3 at *
  generalize funF c 4 = w4 at *
  intro hm
  repeat' split at hm
  all_goals simp at hm
  all_goals
    rcases m with ⟨mv, ma, ms⟩
    simp_all
    try omega

theorem cost_bnd {cs : List Int} (hn : cs.length ≤ 5000) (hch : ∀ c ∈ cs, isCh c) {k : Nat} (hk : k < cs.length) {st : Int} (h0 : 0 ≤ st) (h4 : st ≤ 4) {m : Mv} (hm : m ∈ movesL cs k st) {r : Int} (hr : costsF cs m.at_ m.st = some r) : 0 ≤ r ∧ r ≤ 15001 := by
  obtain ⟨j, e1, e2, e3, e4, e5⟩ := moves_nat hk h0 h4 hm
  rw [e1] at hr
  refine ⟨cost_nonneg hn hch e3 e4 e5 hr, ?_⟩
  obtain ⟨g0, g1, g2, g3, g4⟩ := costs_good cs hn hch j e3
  have b0 := rowAt_bnd cs j
  have b1 := rowAt_bnd cs (j + 1)
  unfold bndR at b0 b1
  have hst : m.st = 0 ∨ m.st = 1 ∨ m.st = 2 ∨ m.st = 3 ∨ m.st = 4 := by omega
  rcases hst with e | e | e | e | e <;> rw [e] at hr
  · rw [g0] at hr; split at hr
    · simp only [Option.some.injEq] at hr; omega
    · cases hr
  · rw [g1] at hr; split at hr
    · simp only [Option.some.injEq] at hr; omega
    · cases hr
  · rw [g2] at hr; simp only [Option.some.injEq] at hr; omega
  · rw [g3] at hr; simp only [Option.some.injEq] at hr; omega
  · rw [g4] at hr; simp only [Option.some.injEq] at hr; omega

/-- The cells of the best move so far. -/
def bestC : Option Mv → Array Value
  | none => #[.int .i64 0, .int .i64 0, .int .i64 0]
  | some m => #[.int .i64 m.v, .int .i64 m.at_, .int .i64 m.st]

set_option maxRecDepth 100000 in
set_option maxHeartbeats 8000000 in
theorem values_any (a : Option Addr) (n cap : Nat) (cs : List Int) (w : World) (h : RdI w a n cs) (hn : n ≤ 1099511627776) :
    Calls Try.prog 22 #[.slice a n cap] w (RetI (valuesF cs).1 (valuesF cs).2 w) := by
  have H := Lib.hid h; have HL := Lib.hid h.length; clear h
  by_cases h0 : n = 0
  · have hv : valuesF cs = ([], 5) := by unfold valuesF; rw [HL.out, if_pos h0]
    rw [hv]
    subst h0
    go_enter Try.func22, Try.ntmps22
    go_wp2
    go_ret2
    exact retI_nil _ _ _ (Below.refl _ _)
  by_cases h1 : 4096 < n
  · have hv : valuesF cs = ([], 4) := by unfold valuesF; rw [HL.out, if_neg h0, if_pos h1]
    rw [hv]
    have h0' : ((n : Int) == 0) = false := by simp; omega
    go_enter Try.func22, Try.ntmps22
    go_wp2
    go_ret2
    exact retI_nil _ _ _ (Below.refl _ _)
  have hv : valuesF cs = if badC cs = true then ([], 6) else (seqF cs ++ [chkL (seqF cs), 106], 0) := by unfold valuesF; rw [HL.out, if_neg h0, if_neg h1]
  have HV := Lib.hid hv; clear hv
  have h0' : ((n : Int) == 0) = false := by simp; omega
  go_enter Try.func22, Try.ntmps22
  go_wp2
  go_loop [25] (fun x => ∃ k : Nat, k ≤ n ∧ x = .int .i64 k ∧ Hid (badC (cs.drop k) = badC cs)) (fun x => n - (intOf x).toNat)
  case atStart => exact ⟨0, by omega, rfl, rfl⟩
  case round =>
    obtain ⟨k, hk, rfl, hB⟩ := hrel
    by_cases hlt : k < n
    · obtain ⟨b, off, c, rfl, hcell, hd⟩ := H.out.at k hlt
      have hs : badC (cs.drop k) = if c < 0 ∨ (127 < c ∧ c < 256) ∨ 259 < c then true else badC (cs.drop (k + 1)) := by rw [hd]; rfl
      have HS := Lib.hid hs; clear hs hd
      go_wp2
      all_goals first
        | (go_round
           case rel => exact ⟨k + 1, by omega, by go_num, by rw [← hB.out, HS.out, if_neg (by simp_all; try omega)]; rfl⟩
           case measure => simp [intOf]; omega)
        | (go_ret2
           rw [HV.out, if_pos (by rw [← hB.out, HS.out, if_pos (by simp_all; try omega)])]
           exact retI_nil _ _ _ (Below.refl _ _))
    · have hgood : badC cs = false := by rw [← hB.out, drop_all (by rw [HL.out]; omega)]; rfl
      have hv := HV.out
      rw [if_neg (by rw [hgood]; simp)] at hv
      have HG := Lib.hid hgood; have HV2 := Lib.hid hv
      clear HV hgood hv hB
      have hcm := badC_mem HG.out
      have HCM := Lib.hid hcm; clear hcm
      go_wp2_with fail
      refine (costs_any a n cap cs w H.out (by omega) HCM.out).mono ?_
      rintro e w1 ⟨mb, rfl, hmb, hmap, hB1⟩
      obtain ⟨c2, hc2⟩ : ∃ c, ((costsF cs) 0 2).getD 0 = c := ⟨_, rfl⟩
      obtain ⟨c3, hc3⟩ : ∃ c, ((costsF cs) 0 3).getD 0 = c := ⟨_, rfl⟩
      obtain ⟨c4, hc4⟩ : ∃ c, ((costsF cs) 0 4).getD 0 = c := ⟨_, rfl⟩
      have HC2 := Lib.hid hc2; have HC3 := Lib.hid hc3; have HC4 := Lib.hid hc4
      clear hc2 hc3 hc4
      go_wp2_with fail
      go_loopw [7, 8] (fun s x wr => MapF Try.prog 57 wr mb (encF (costsF cs)) ∧ Below w.heap.size w wr ∧ ((x = .int .i64 104 ∧ s = .int .i64 103) ∨ (x = .int .i64 105 ∧ s = .int .i64 (if c3 < c2 then 104 else 103)) ∨ (∃ z : Int, x = .int .i64 106 ∧ s = .int .i64 z ∧ Hid (z = startF (costsF cs)) ∧ 103 ≤ z ∧ z ≤ 105))) (fun _ x _ => (106 - intOf x).toNat)
      case atStart => exact ⟨hmap, hB1, .inl ⟨rfl, rfl⟩⟩
      case round =>
        clear hmap hB1
        obtain ⟨hmap, hB1, hrel⟩ := hrel
        have l2 := fun m => tab_look1 (w := wr.drewN m) (hmap.kept rfl) 0 2 c2 (by decide) (by decide) HC2.out
        have l3 := fun m => tab_look1 (w := wr.drewN m) (hmap.kept rfl) 0 3 c3 (by decide) (by decide) HC3.out
        have l4 := fun m => tab_look1 (w := wr.drewN m) (hmap.kept rfl) 0 4 c4 (by decide) (by decide) HC4.out
        rcases hrel with ⟨rfl, rfl⟩ | ⟨rfl, rfl⟩ | ⟨z, rfl, rfl, hz, hz1, hz2⟩
        · by_cases hlt : c3 < c2
          · skip
            have hd : decide (c3 < c2) = true := by simpa using hlt
            go_wp2_with fail
            go_quiet ((go_at_call 27; exact Calls.quiet_of_same ((startSet_any _ _ (by omega) (by omega)).mono fun _ _ h => ⟨h.1, h.2.symm⟩)))
            go_wp2
            go_roundw
            case rel => exact ⟨hmap.kept rfl, below_drewN hB1 _, .inr (.inl ⟨rfl, by rw [if_pos hlt]⟩)⟩
            case measure => simp [intOf]
          · skip
            have hd : decide (c3 < c2) = false := by simpa using hlt
            go_wp2_with fail
            go_quiet ((go_at_call 27; exact Calls.quiet_of_same ((startSet_any _ _ (by omega) (by omega)).mono fun _ _ h => ⟨h.1, h.2.symm⟩)))
            go_wp2
            go_roundw
            case rel => exact ⟨hmap.kept rfl, below_drewN hB1 _, .inr (.inl ⟨rfl, by rw [if_neg (by omega)]⟩)⟩
            case measure => simp [intOf]
        · by_cases hlt : c3 < c2
          · rw [if_pos hlt]
            by_cases hlt2 : c4 < c3
            · skip
              have hd : decide (c4 < c3) = true := by simpa using hlt2
              go_wp2_with fail
              go_quiet ((go_at_call 27; exact Calls.quiet_of_same ((startSet_any _ _ (by omega) (by omega)).mono fun _ _ h => ⟨h.1, h.2.symm⟩)))
              go_wp2
              go_roundw
              case rel => exact ⟨hmap.kept rfl, below_drewN hB1 _, .inr (.inr ⟨105, rfl, rfl, start_eq HC2.out HC3.out HC4.out (by rw [if_pos hlt, if_pos ⟨trivial, hlt2⟩]), by omega, by omega⟩)⟩
              case measure => simp [intOf]
            · skip
              have hd : decide (c4 < c3) = false := by simpa using hlt2
              go_wp2_with fail
              go_quiet ((go_at_call 27; exact Calls.quiet_of_same ((startSet_any _ _ (by omega) (by omega)).mono fun _ _ h => ⟨h.1, h.2.symm⟩)))
              go_wp2
              go_roundw
              case rel => exact ⟨hmap.kept rfl, below_drewN hB1 _, .inr (.inr ⟨104, rfl, rfl, start_eq HC2.out HC3.out HC4.out (by rw [if_pos hlt, if_neg (by rintro ⟨_, h⟩; omega)]), by omega, by omega⟩)⟩
              case measure => simp [intOf]
          · rw [if_neg hlt]
            by_cases hlt2 : c4 < c2
            · skip
              have hd : decide (c4 < c2) = true := by simpa using hlt2
              go_wp2_with fail
              go_quiet ((go_at_call 27; exact Calls.quiet_of_same ((startSet_any _ _ (by omega) (by omega)).mono fun _ _ h => ⟨h.1, h.2.symm⟩)))
              go_wp2
              go_roundw
              case rel => exact ⟨hmap.kept rfl, below_drewN hB1 _, .inr (.inr ⟨105, rfl, rfl, start_eq HC2.out HC3.out HC4.out (by rw [if_neg (by omega), if_pos ⟨trivial, hlt2⟩]), by omega, by omega⟩)⟩
              case measure => simp [intOf]
            · skip
              have hd : decide (c4 < c2) = false := by simpa using hlt2
              go_wp2_with fail
              go_quiet ((go_at_call 27; exact Calls.quiet_of_same ((startSet_any _ _ (by omega) (by omega)).mono fun _ _ h => ⟨h.1, h.2.symm⟩)))
              go_wp2
              go_roundw
              case rel => exact ⟨hmap.kept rfl, below_drewN hB1 _, .inr (.inr ⟨103, rfl, rfl, start_eq HC2.out HC3.out HC4.out (by rw [if_neg (by omega), if_neg (by rintro ⟨_, h⟩; omega)]), by omega, by omega⟩)⟩
              case measure => simp [intOf]
        · clear l2 l3 l4 HC2 HC3 HC4
          go_wp2_with fail
          refine (startSet_any _ _ (by omega) (by omega)).mono ?_
          rintro e w' ⟨rfl, rfl⟩
          go_wp2_with fail
          obtain ⟨f, hf⟩ : ∃ f : Nat, costsF cs (0 : Nat) (z - 101) = some (f : Int) := start_cost HG.out (by rw [HL.out]; omega) (by omega) (by omega)
          have hfb : f ≤ 15000 := start_bound HG.out (by rw [HL.out]; omega) (by omega) (by omega) hf
          have HS : Hid ([z] ++ goF cs (costsF cs) f 0 (z - 101) = seqF cs) := by
            have e := hz.out
            subst e
            unfold seqF
            have hf' : costsF cs 0 (startF (costsF cs) - 101) = some (f : Int) := hf
            rw [hf']; rfl
          have HF := Lib.hid hf
          clear hf hz
          have hmapA : MapF Try.prog 57 ((wr.alloc (.cells #[.int .i64 z] 3)).alloc (.cells #[.int .i64 0, .int .i64 (z - 101)] 57)) mb (encF (costsF cs)) := (hmap.kept (Below.heap_alloc _ _ _ hmap.lt)).kept (Below.heap_alloc _ _ _ (by have := hmap.lt; simp; omega))
          have hBA : Below w.heap.size w ((wr.alloc (.cells #[.int .i64 z] 3)).alloc (.cells #[.int .i64 0, .int .i64 (z - 101)] 57)) := (hB1.alloc hB1.size _).alloc (by have := hB1.size; simp; omega) _
          have hownA : ((wr.alloc (.cells #[.int .i64 z] 3)).alloc (.cells #[.int .i64 0, .int .i64 (z - 101)] 57)).ownsRow w.heap.size 3 1 (.slice (some ⟨wr.heap.size, 0, none⟩) 1 1) 1 [.int .i64 z] := (own_new wr [.int .i64 z] 1 hB1.size rfl (by unfold maxLen; omega)).alloc _
          have hnA : ((wr.alloc (.cells #[.int .i64 z] 3)).alloc (.cells #[.int .i64 0, .int .i64 (z - 101)] 57)).heap[wr.heap.size + 1]? = some (.cells #[.int .i64 0, .int .i64 (z - 101)] 57 (0, 0)) := by
            have := World.alloc_heap_new (wr.alloc (.cells #[.int .i64 z] 3)) (.cells #[.int .i64 0, .int .i64 (z - 101)] 57)
            simpa using this
          go_loopg [9, 10] f (fun f v p wr => ∃ (k : Nat) (st : Int) (pre : List Int) (pb : Nat), k ≤ n ∧ wr.ownsRow w.heap.size 3 1 v pre.length (pre.map (Value.int .i64)) ∧ p = .pointer (some ⟨pb, 0, none⟩) ∧ wr.heap[pb]? = some (.cells #[.int .i64 k, .int .i64 st] 57 (0, 0)) ∧ w.heap.size ≤ pb ∧ MapF Try.prog 57 wr mb (encF (costsF cs)) ∧ Below w.heap.size w wr ∧ 0 ≤ st ∧ st ≤ 4 ∧ Hid (costsF cs k st = some (f : Int)) ∧ Hid (pre ++ goF cs (costsF cs) f k st = seqF cs) ∧ pre.length + f ≤ 20000 ∧ Hid (∀ v ∈ pre, 0 ≤ v ∧ v ≤ 200))
          case atStart => exact ⟨0, z - 101, [z], wr.heap.size + 1, by omega, hownA, rfl, hnA, by have := hB1.size; omega, hmapA, hBA, by omega, by omega, HF, HS, by simp; omega, Lib.hid (by intro v hv; simp at hv; omega)⟩
          case round =>
            clear hmapA hBA hownA hnA HS HF hmap hB1
            clear hfb f
            obtain ⟨wz, rfl⟩ : ∃ wz : World, wz = wr := ⟨_, rfl⟩
            obtain ⟨fo, rfl⟩ : ∃ fo : Nat, fo = gk := ⟨_, rfl⟩
            obtain ⟨k, st, pre, pb, hk, hown, rfl, hnode, hpb, hmap, hB, hs0, hs4, hF, hS, hlen, hval⟩ := hrel
            have hn0 : wz.cell? ⟨pb, 0, none⟩ = some (.int .i64 k) := by simp [World.cell?, hnode]
            have hn1 : wz.cell? ⟨pb, 1, none⟩ = some (.int .i64 st) := by simp [World.cell?, hnode]
            by_cases hkn : k < n
            · have hdk : decide ((k : Int) < (n : Int)) = true := by simp; omega
              obtain ⟨hf1, mm, hpick, hmem, hhit, _⟩ := next_ok (cs := cs) (by rw [HL.out]; omega) (badC_ok HG.out) (by rw [HL.out]; exact hkn) hs0 hs4 hF.out
              have HP := Lib.hid (And.intro hpick (And.intro hmem hhit))
              clear hpick hmem hhit
              have hml := movesL_length cs k st
              have hmm5 := movesL_mem cs k st (by omega) (by omega)
              have HMM := Lib.hid hmm5
              have hmv := fun W (hW : Below w.heap.size w W) => moves_any a n cap k st cs W (H.out.below hW) hkn (by omega) HCM.out (by omega) (by omega)
              have HMV := Lib.hid hmv
              clear hmm5 hmv
              generalize hms : movesL cs k st = ms at *
              have HMS := Lib.hid hms; clear hms
              have hBa : Below w.heap.size w (wz.alloc (.cells #[.int .i64 0, .int .i64 0, .int .i64 0] 59)) := hB.alloc hB.size _
              have wk : (Lit.int .i64 (k : Int)).wf = true := WalkArith.wf_i64 (by omega)
              have ws : (Lit.int .i64 st).wf = true := WalkArith.wf_i64 (by omega)
              have hpl : pb < wz.heap.size := (Array.getElem?_eq_some_iff.1 hnode).1
              have hq0 : (wz.alloc (.cells #[.int .i64 0, .int .i64 0, .int .i64 0] 59)).cell? ⟨pb, 0, none⟩ = some (.int .i64 k) := by rw [World.cell?_alloc_past _ _ _ hpl]; exact hn0
              have hq1 : (wz.alloc (.cells #[.int .i64 0, .int .i64 0, .int .i64 0] 59)).cell? ⟨pb, 1, none⟩ = some (.int .i64 st) := by rw [World.cell?_alloc_past _ _ _ hpl]; exact hn1
              go_wp2_with fail
              refine (HMV.out _ hBa).mono ?_
              rintro e w5 ⟨mv, rfl, hownM, hb5⟩
              have hB5 : Below w.heap.size w w5 := hBa.trans (hb5.mono hBa.size)
              have hmap5 : MapF Try.prog 57 w5 mb (encF (costsF cs)) := (hmap.kept (Below.heap_alloc _ _ _ hmap.lt)).below hb5
              have hbest5 : w5.heap[wz.heap.size]? = some (.cells #[.int .i64 0, .int .i64 0, .int .i64 0] 59 (0, 0)) := (hb5.block _ (by simp)).trans (World.alloc_heap_new wz _)
              have hnode5 : w5.heap[pb]? = some (.cells #[.int .i64 k, .int .i64 st] 57 (0, 0)) := (hb5.block _ (by simp; omega)).trans ((Below.heap_alloc _ _ _ hpl).trans hnode)
              have hown5 : w5.ownsRow w.heap.size 3 1 u9 pre.length (pre.map (Value.int .i64)) := own_below (hown.alloc _) hb5
              have hnb : u9.ownBlock ≠ some wz.heap.size := own_lt_ne hown
              have hmbl : mb < wz.heap.size := hmap.lt
              have hsz : w.heap.size ≤ wz.heap.size := hB.size
              obtain ⟨base, hbase⟩ : ∃ base, base = (wz.alloc (.cells #[.int .i64 0, .int .i64 0, .int .i64 0] 59)).heap.size := ⟨_, rfl⟩
              have hbb : wz.heap.size < base := by rw [hbase]; simp
              rw [← hbase] at hownM
              clear hbase hb5 hn0 hn1 hq0 hq1 hnode hmap hown hB hBa
              obtain ⟨ma, mc, rfl⟩ : ∃ ma mc, mv = .slice ma ms.length mc := by
                rcases hownM.2 with ⟨rfl, hz⟩ | ⟨g, cp, cur, rfl, _⟩
                · exact ⟨none, 0, by rw [hz]⟩
                · exact ⟨_, _, rfl⟩
              generalize hbbe : wz.heap.size = bb at *
              clear hbbe
              go_wp2_with fail
              go_loopg [12, 76] ms.length (fun r fd x wr => ∃ (j : Nat) (o : Option Mv), j + r = ms.length ∧ x = .int .i64 j ∧ fd = .bool o.isSome ∧ wr.heap[bb]? = some (.cells (bestC o) 59 (0, 0)) ∧ wr.heap[pb]? = some (.cells #[.int .i64 k, .int .i64 st] 57 (0, 0)) ∧ MapF Try.prog 57 wr mb (encF (costsF cs)) ∧ Below w.heap.size w wr ∧ wr.ownsRow base 59 3 (.slice ma ms.length mc) ms.length (flatM ms) ∧ wr.ownsRow w.heap.size 3 1 u9 pre.length (pre.map (Value.int .i64)) ∧ Hid ((ms.drop j).foldl (pstep (costsF cs) fo) o = pickF (costsF cs) fo ms))
              case atStart => exact ⟨0, none, by omega, rfl, rfl, hbest5, hnode5, hmap5, hB5, hownM, hown5, rfl⟩
              case round =>
                clear hmap5 hB5 hownM hown5 hbest5 hnode5
                obtain ⟨j, o, hj, rfl, rfl, hbest, hnode, hmap, hB, hownM, hown, hP⟩ := hrel
                by_cases hjl : j < ms.length
                · have hg1 : ∃ g, ma = some ⟨g, 0, none⟩ := by
                    rcases hownM.2 with ⟨e, hz⟩ | ⟨g, cp, cur, e, _⟩
                    · omega
                    · cases e; exact ⟨g, rfl⟩
                  obtain ⟨g, rfl⟩ := hg1
                  obtain ⟨m, hm⟩ : ∃ m, ms[j]? = some m := ⟨ms[j], List.getElem?_eq_getElem hjl⟩
                  have hp6 := hP.out
                  have hdj : ms.drop j = m :: ms.drop (j + 1) := by
                    rw [List.drop_eq_getElem_cons hjl]
                    rw [List.getElem?_eq_getElem hjl] at hm; cases hm; rfl
                  rw [hdj, List.foldl_cons] at hp6
                  have hcl : ∀ i, i < 3 → wr.cell? ⟨g, j * 3 + i, none⟩ = m.cells[i]? := fun i hi => by
                    rw [hownM.cellAt (j * 3 + i) (by omega)]; exact flatM_at ms j m hm i hi
                  have hc0 := hcl 0 (by omega)
                  have hc1 := hcl 1 (by omega)
                  have hc2 := hcl 2 (by omega)
                  have hmem := HMM.out m (List.mem_of_getElem? hm)
                  have hmm0 := Lib.hid (List.mem_of_getElem? hm)
                  obtain ⟨mvv, mat, mst⟩ := m
                  simp [Mv.cells] at hc0 hc1 hc2
                  simp only at hmem
                  obtain ⟨hm1, hm2, hm3, hm4⟩ := hmem
                  have HP6 := Lib.hid hp6
                  clear hp6 hP hdj hcl hm
                  have wmat : (Lit.int .i64 mat).wf = true := WalkArith.wf_i64 (by omega)
                  have wmst : (Lit.int .i64 mst).wf = true := WalkArith.wf_i64 (by omega)
                  have hpl : pb < wr.heap.size := (Array.getElem?_eq_some_iff.1 hnode).1
                  have hbl : bb < wr.heap.size := (Array.getElem?_eq_some_iff.1 hbest).1
                  have hmapW : MapF Try.prog 57 (wr.alloc (.cells #[.int .i64 mvv, .int .i64 mat, .int .i64 mst] 59)) mb (encF (costsF cs)) := hmap.kept (Below.heap_alloc _ _ _ hmap.lt)
                  have l1 := tab_look hmapW mat mst wmat wmst
                  have l2 := tab_look1 hmapW (k : Int) st fo wk ws (by rw [hF.out]; rfl)
                  have hq0 : (wr.alloc (.cells #[.int .i64 mvv, .int .i64 mat, .int .i64 mst] 59)).cell? ⟨pb, 0, none⟩ = some (.int .i64 k) := by rw [World.cell?_alloc_past _ _ _ hpl]; simp [World.cell?, hnode]
                  have hq1 : (wr.alloc (.cells #[.int .i64 mvv, .int .i64 mat, .int .i64 mst] 59)).cell? ⟨pb, 1, none⟩ = some (.int .i64 st) := by rw [World.cell?_alloc_past _ _ _ hpl]; simp [World.cell?, hnode]
                  cases hF1 : costsF cs mat mst with
                  | none =>
                    rw [hF1] at l1
                    simp only [Option.getD_none, Option.isSome_none] at l1
                    have HR1 : Hid (pstep (costsF cs) fo o ⟨mvv, mat, mst⟩ = o) := pstep_no (by unfold hits; rw [hF1]; simp)
                    clear hF1
                    go_wp2
                    go_roundg (ms.length - (j + 1))
                    case rel => exact ⟨j + 1, o, by omega, by go_num, rfl, (Below.heap_alloc _ _ _ hbl).trans hbest, (Below.heap_alloc _ _ _ hpl).trans hnode, hmapW, hB.alloc hB.size _, hownM.alloc _, hown.alloc _, by rw [← HP6.out, HR1.out]; rfl⟩
                    case measure => omega
                  | some r1 =>
                    have hrb : 0 ≤ r1 ∧ r1 ≤ 15001 := cost_bnd (cs := cs) (by rw [HL.out]; omega) (badC_ok HG.out) (by rw [HL.out]; exact hkn) hs0 hs4 (m := ⟨mvv, mat, mst⟩) (by rw [HMS.out]; exact hmm0.out) hF1
                    obtain ⟨hrb0, hrb1⟩ := hrb
                    rw [hF1] at l1
                    simp only [Option.getD_some, Option.isSome_some] at l1
                    have hbestA : (wr.alloc (.cells #[.int .i64 mvv, .int .i64 mat, .int .i64 mst] 59)).heap[bb]? = some (.cells (bestC o) 59 (0, 0)) := (Below.heap_alloc _ _ _ hbl).trans hbest
                    by_cases hr : r1 + 1 = fo
                    · have hd : (r1 + 1 == (fo : Int)) = true := by simpa using hr
                      have hhit : Hid (hits (costsF cs) fo ⟨mvv, mat, mst⟩) := by show costsF cs mat mst = some _; rw [hF1]; congr 1; omega
                      cases o with
                      | none =>
                        simp only [Option.isSome_none]
                        have HR1 : Hid (pstep (costsF cs) fo none ⟨mvv, mat, mst⟩ = some ⟨mvv, mat, mst⟩) := pstep_yes hhit.out
                        clear hF1 hr hmap
                        go_wp2_with (refine wpList_store_row rfl 59 (.tmp 11) (.tmp 107) rfl bb #[.int .i64 mvv, .int .i64 mat, .int .i64 mst] rfl rfl 59 _ hbestA size59 rfl (one3 _ _ _) ?_)
                        go_roundg (ms.length - (j + 1))
                        case rel => exact ⟨j + 1, some ⟨mvv, mat, mst⟩, by omega, by go_num, rfl, setRow_heap _ _ _ _ _ _ hbestA, (setRow_other _ _ _ _ (by omega)).trans ((Below.heap_alloc _ _ _ hpl).trans hnode), hmapW.kept (setRow_other _ _ _ _ (by omega)), below_setRow (hB.alloc hB.size _) (by omega) _, own_setRow (hownM.alloc _) (own_base_ne hownM (by omega)) _, own_setRow (hown.alloc _) hnb _, by rw [← HP6.out, HR1.out]; rfl⟩
                        case measure => omega
                      | some b =>
                        obtain ⟨bv, bat, bst⟩ := b
                        simp only [Option.isSome_some]
                        have hb0 : (wr.alloc (.cells #[.int .i64 mvv, .int .i64 mat, .int .i64 mst] 59)).cell? ⟨bb, 0, none⟩ = some (.int .i64 bv) := by simp [World.cell?, hbestA, bestC]
                        by_cases hv : mvv < bv
                        · have hdv : decide (mvv < bv) = true := by simpa using hv
                          have HR1 : Hid (pstep (costsF cs) fo (some ⟨bv, bat, bst⟩) ⟨mvv, mat, mst⟩ = some ⟨mvv, mat, mst⟩) := (pstep_yes hhit.out).trans (if_pos hv)
                          clear hF1 hr hmap hv
                          go_wp2_with (refine wpList_store_row rfl 59 (.tmp 11) (.tmp 107) rfl bb #[.int .i64 mvv, .int .i64 mat, .int .i64 mst] rfl rfl 59 _ hbestA size59 rfl (one3 _ _ _) ?_)
                          go_roundg (ms.length - (j + 1))
                          case rel => exact ⟨j + 1, some ⟨mvv, mat, mst⟩, by omega, by go_num, rfl, setRow_heap _ _ _ _ _ _ hbestA, (setRow_other _ _ _ _ (by omega)).trans ((Below.heap_alloc _ _ _ hpl).trans hnode), hmapW.kept (setRow_other _ _ _ _ (by omega)), below_setRow (hB.alloc hB.size _) (by omega) _, own_setRow (hownM.alloc _) (own_base_ne hownM (by omega)) _, own_setRow (hown.alloc _) hnb _, by rw [← HP6.out, HR1.out]; rfl⟩
                          case measure => omega
                        · have hdv : decide (mvv < bv) = false := by simpa using hv
                          have HR1 : Hid (pstep (costsF cs) fo (some ⟨bv, bat, bst⟩) ⟨mvv, mat, mst⟩ = (some ⟨bv, bat, bst⟩)) := (pstep_yes hhit.out).trans (if_neg hv)
                          clear hF1 hr hv
                          go_wp2
                          go_roundg (ms.length - (j + 1))
                          case rel => exact ⟨j + 1, (some ⟨bv, bat, bst⟩), by omega, by go_num, rfl, (Below.heap_alloc _ _ _ hbl).trans hbest, (Below.heap_alloc _ _ _ hpl).trans hnode, hmapW, hB.alloc hB.size _, hownM.alloc _, hown.alloc _, by rw [← HP6.out, HR1.out]; rfl⟩
                          case measure => omega
                    · have hd : (r1 + 1 == (fo : Int)) = false := by simpa using hr
                      have HR1 : Hid (pstep (costsF cs) fo o ⟨mvv, mat, mst⟩ = o) := pstep_no (by unfold hits; rw [hF1]; simp; omega)
                      clear hF1 hr
                      go_wp2
                      go_roundg (ms.length - (j + 1))
                      case rel => exact ⟨j + 1, o, by omega, by go_num, rfl, (Below.heap_alloc _ _ _ hbl).trans hbest, (Below.heap_alloc _ _ _ hpl).trans hnode, hmapW, hB.alloc hB.size _, hownM.alloc _, hown.alloc _, by rw [← HP6.out, HR1.out]; rfl⟩
                      case measure => omega
                · have hjj : j = ms.length := by omega
                  have hpk := hP.out
                  rw [hjj, List.drop_length, List.foldl_nil, HP.out.1] at hpk
                  subst hpk
                  obtain ⟨_, hmem, hhit⟩ := HP.out
                  obtain ⟨mvv, mat, mst⟩ := mm
                  obtain ⟨k', hk', hkk, hkn', hst0, hst4⟩ := moves_nat (cs := cs) (by rw [HL.out]; exact hkn) hs0 hs4 (by rw [HMS.out]; exact hmem)
                  simp only at hk' hst0 hst4
                  subst hk'
                  have hvv := moves_val (badC_ok HG.out) (by rw [HL.out]; exact hkn) hs0 hs4 (by rw [HMS.out]; exact hmem)
                  simp only at hvv
                  obtain ⟨hv0, hv1⟩ := hvv
                  rw [HL.out] at hkn'
                  obtain ⟨f', hf'⟩ : ∃ f' : Nat, fo = f' + 1 := ⟨fo - 1, by omega⟩
                  have hF' : Hid (costsF cs k' mst = some (f' : Int)) := by
                    have : costsF cs (k' : Int) mst = some ((fo : Int) - 1) := hhit
                    rw [hf'] at this
                    rw [this]; show some _ = some _; congr 1; omega
                  have hS' : Hid ((pre ++ [mvv]) ++ goF cs (costsF cs) f' k' mst = seqF cs) := by
                    have h1 := hS.out
                    subst hf'
                    have h2 : pickF (costsF cs) ((f' : Int) + 1) (movesL cs k st) = some ⟨mvv, k', mst⟩ := by have := HP.out.1; rw [← HMS.out] at this; exact_mod_cast this
                    rw [goF, h2] at h1
                    rw [List.append_assoc]; exact h1
                  clear hmem hhit hP HP hF hS
                  have hpl : pb < wr.heap.size := (Array.getElem?_eq_some_iff.1 hnode).1
                  have hbl : bb < wr.heap.size := (Array.getElem?_eq_some_iff.1 hbest).1
                  have hb0 : wr.cell? ⟨bb, 0, none⟩ = some (.int .i64 mvv) := by simp [World.cell?, hbest, bestC]
                  obtain ⟨i3, hi3, hz3a, hz3b, hz3c⟩ := info_parts info3
                  go_wp2_with (at_builtin; refine wpList_append_own _ rfl _ _ 22 rfl w.heap.size 3 i3 (.int .i64 0) 1 8 Try.underlying22 hi3 hz3a hz3b hz3c rfl (by decide) _ _ _ rfl (hown.alloc _) ⟨wr.heap.size, 0, none⟩ 1 1 [.int .i64 mvv] rfl rfl (cell_one_new _ _ _) (by simp [Value.oneCell']) ?c3 ?c4 ?c5 ?_)
                  case c3 => unfold maxLen; omega
                  case c4 => omega
                  case c5 => have := hB.size; simp; omega
                  intro v' w7 hown' hgrow _
                  have hB3 := below_app hB hB.size hown hgrow
                  have hnode7 : w7.heap[pb]? = some (.cells #[.int .i64 k, .int .i64 st] 57 (0, 0)) := (hgrow.block pb (by simp; omega) (fun e => own_type_ne hown hnode (by decide) e.symm)).trans ((Below.heap_alloc _ _ _ hpl).trans hnode)
                  have hbest7 : w7.heap[bb]? = some (.cells #[.int .i64 mvv, .int .i64 k', .int .i64 mst] 59 (0, 0)) := (hgrow.block bb (by simp; omega) (fun e => hnb e.symm)).trans ((Below.heap_alloc _ _ _ hbl).trans hbest)
                  have hmap7 : MapF Try.prog 57 w7 mb (encF (costsF cs)) := hmap.kept ((hgrow.block mb (by simp; omega) (fun e => own_not_map hown hmap e.symm)).trans (Below.heap_alloc _ _ _ hmap.lt))
                  have hq1 : w7.cell? ⟨bb, 1, none⟩ = some (.int .i64 k') := by simp [World.cell?, hbest7]
                  have hq2 : w7.cell? ⟨bb, 2, none⟩ = some (.int .i64 mst) := by simp [World.cell?, hbest7]
                  have hpb7 : pb < w7.heap.size := (Array.getElem?_eq_some_iff.1 hnode7).1
                  have hnode8 : (w7.setRow pb #[.int .i64 k', .int .i64 mst]).heap[pb]? = some (.cells #[.int .i64 k', .int .i64 mst] 57 (0, 0)) := setRow_heap _ _ _ _ _ _ hnode7
                  have hr0 : (w7.setRow pb #[.int .i64 k', .int .i64 mst]).cell? ⟨pb, 0, none⟩ = some (.int .i64 k') := by simp [World.cell?, hnode8]
                  have hr1 : (w7.setRow pb #[.int .i64 k', .int .i64 mst]).cell? ⟨pb, 1, none⟩ = some (.int .i64 mst) := by simp [World.cell?, hnode8]
                  clear hgrow
                  go_wp2_with (refine wpList_store_row rfl 57 (.tmp 10) (.tmp 115) rfl pb #[.int .i64 k', .int .i64 mst] rfl rfl 57 _ hnode7 size57 rfl (one2 _ _) ?_)
                  go_roundg f'
                  case rel =>
                    refine ⟨k', mst, pre ++ [mvv], w7.heap.size, by omega, ?_, ?_, ?_, ?_, ?_, ?_, hst0, hst4, hF', hS', by simp; omega, Lib.hid ?_⟩
                    · exact own_congr ((own_setRow hown' (own_type_ne hown' hnode7 (by decide)) _).alloc _) (by simp) (by simp)
                    · first | rfl | simp
                    · have := World.alloc_heap_new (w7.setRow pb #[.int .i64 k', .int .i64 mst]) (.cells #[.int .i64 k', .int .i64 mst] 57)
                      rw [setRow_size] at this; exact this
                    · have := hB3.size; omega
                    · exact (hmap7.kept (setRow_other _ _ _ _ (fun e => (map_ne hmap7 hnode7) e))).kept (Below.heap_alloc _ _ _ (by rw [setRow_size]; exact hmap7.lt))
                    · exact (below_setRow hB3 hpb _).alloc (by rw [setRow_size]; exact hB3.size) _
                    · intro v hv
                      rw [List.mem_append] at hv
                      rcases hv with hv | hv
                      · exact hval.out v hv
                      · simp at hv; subst hv; exact ⟨hv0, by omega⟩
                  case measure => omega
            · have hdk : decide ((k : Int) < (n : Int)) = false := by simp; omega
              have hf0 : fo = 0 := end_zero HG.out (by rw [HL.out]; omega) (by rw [HL.out]; omega) (by rw [HL.out]; omega) hs0 hs4 hF.out
              subst hf0
              have hpre : pre = seqF cs := by rw [← hS.out]; unfold goF; rw [List.append_nil]
              have HPR := Lib.hid hpre
              clear hpre hF hS
              obtain ⟨va, vc, rfl, hrd⟩ := own_rd hown
              obtain ⟨z0, q, hzq⟩ : ∃ z0 q, pre = z0 :: q := by
                cases pre with
                | nil => have := HPR.out; unfold seqF at this; cases this
                | cons z0 q => exact ⟨z0, q, rfl⟩
              subst hzq
              obtain ⟨i3, hi3, hz3a, hz3b, hz3c⟩ := info_parts info3
              go_wp2_with fail
              refine (checkValue_any va _ vc z0 q _ hrd (by omega) hval.out).mono ?_
              rintro e w' ⟨rfl, rfl⟩
              go_wp2_with (at_builtin; refine wpList_append_own _ rfl _ _ 22 rfl w.heap.size 3 i3 (.int .i64 0) 1 8 Try.underlying22 hi3 hz3a hz3b hz3c rfl (by decide) _ _ _ rfl (hown.alloc _) ⟨wz.heap.size, 0, none⟩ 2 2 [.int .i64 (chkF 0 z0 (z0 :: q)), .int .i64 106] rfl rfl (cells_new _ _) (by simp [Value.oneCell']) ?c3 ?c4 ?c5 ?_)
              case c3 => unfold maxLen; omega
              case c4 => omega
              case c5 => have := hB.size; simp; omega
              intro v' w7 hown' hgrow _
              have hB3 := below_app hB hB.size hown hgrow
              clear hgrow hown
              go_wp2
              go_ret2
              rw [HV2.out, ← HPR.out]
              refine ⟨v', rfl, own_congr hown' (by simp) (by simp [chkL]), hB3⟩

end Go.Proofs.Ytofedeokliljkaa
