/-
  The walk of the statement SplitOrder: it returns true. No condition.
-/
import Derived.Test.YtifgpjhodajccaaWalkV
import Derived.Test.YtifgpjhodajccaaWalkW
namespace Go.Proofs.Ytifgpjhodajccaa
open Go.RowKit

/-- A message with where its segments lie. -/
abbrev Qm := Option Addr × Nat × Msg
def cellsQ (q : Qm) : List Value := [.slice q.1 q.2.2.1.length q.2.1, .int .i64 q.2.2.2.1, .int .i64 q.2.2.2.2.1, .int .i64 q.2.2.2.2.2]
def flatQ (qs : List Qm) : List Value := (qs.map cellsQ).flatten

theorem flatQ_len (qs : List Qm) : (flatQ qs).length = qs.length * 4 := by
  unfold flatQ
  induction qs with
  | nil => rfl
  | cons q r ih => simp only [List.map_cons, List.flatten_cons, List.length_append, List.length_cons, ih]; simp [cellsQ]; omega

theorem flatQ_get : ∀ (qs : List Qm) (k j : Nat) (q : Qm), qs[k]? = some q → j < 4 → (flatQ qs)[k * 4 + j]? = (cellsQ q)[j]? := by
  intro qs
  induction qs with
  | nil => intro k j q h; simp at h
  | cons a r ih =>
    intro k j q h hj
    unfold flatQ
    simp only [List.map_cons, List.flatten_cons]
    cases k with
    | zero =>
      simp at h; subst h
      rw [List.getElem?_append_left (by simp [cellsQ]; omega)]
      simp
    | succ k =>
      simp only [List.getElem?_cons_succ] at h
      rw [List.getElem?_append_right (by simp [cellsQ]; omega)]
      have : (k + 1) * 4 + j - (cellsQ a).length = k * 4 + j := by simp [cellsQ]; omega
      rw [this]
      exact ih k j q h hj

theorem flatQ_snoc (qs : List Qm) (q : Qm) : flatQ (qs ++ [q]) = flatQ qs ++ cellsQ q := by simp [flatQ]

theorem own_rdM {w : World} {B : Nat} {v : Value} {qs : List Qm} (h : w.ownsRow B 42 4 v qs.length (flatQ qs)) (hr : ∀ q ∈ qs, RdS w q.1 q.2.2.1.length q.2.2.1) :
    ∃ a cap, v = .slice a qs.length cap ∧ RdM w a qs.length (qs.map (·.2.2)) := by
  rcases h.2 with ⟨rfl, h0⟩ | ⟨g, cap, cur, rfl, _, hg, h1, h2, _, h4⟩
  · have : qs = [] := List.eq_nil_of_length_eq_zero h0
    subst this
    exact ⟨none, 0, rfl, rfl, by simp, fun k hk => by simp at hk⟩
  · refine ⟨_, cap, rfl, by simp, by unfold maxLen at h2; omega, fun k hk => ⟨g, 0, rfl, fun m hm => ?_⟩⟩
    rw [List.getElem?_map, List.getElem?_eq_getElem hk] at hm
    simp at hm
    have hcell : ∀ j u, j < 4 → (cellsQ qs[k])[j]? = some u → w.cell? ⟨g, 0 + k * 4 + j, none⟩ = some u := by
      intro j u hj hu
      rw [cell_of_row _ _ _ _ _ _ hg]
      have e1 := flatQ_get qs k j qs[k] (List.getElem?_eq_getElem hk) hj
      rw [hu, ← h4, List.getElem?_take_of_lt (by omega)] at e1
      simpa using e1
    have hm' : m = qs[k].2.2 := hm.symm
    subst hm'
    exact ⟨⟨_, _, hcell 0 _ (by omega) rfl, hr _ (List.getElem_mem hk)⟩, hcell 1 _ (by omega) rfl, hcell 2 _ (by omega) rfl, hcell 3 _ (by omega) rfl⟩

theorem info42 : (Try.prog.info? 42).map (fun i => (i.zero, i.size, i.bytes)) = some (some (.agg #[.slice none 0 0, .int .i64 0, .int .i64 0, .int .i64 0]), 4, 48) := by kernel_rfl

theorem RdM.get {w : World} {a : Option Addr} {n : Nat} {ms : List Msg} (h : RdM w a n ms) (k : Nat) (hk : k < n) : ∃ b off sa sc m, a = some ⟨b, off, none⟩ ∧ ms[k]? = some m ∧ RdS w sa m.1.length m.1 ∧
    w.cell? ⟨b, off + k * 4, none⟩ = some (.slice sa m.1.length sc) ∧ w.cell? ⟨b, off + k * 4 + 1, none⟩ = some (.int .i64 m.2.1) ∧ w.cell? ⟨b, off + k * 4 + 2, none⟩ = some (.int .i64 m.2.2.1) ∧ w.cell? ⟨b, off + k * 4 + 3, none⟩ = some (.int .i64 m.2.2.2) := by
  obtain ⟨b, off, m, e, hm, ⟨⟨sa, sc, c0, hr⟩, c1, c2, c3⟩, _⟩ := h.at k hk
  exact ⟨b, off, sa, sc, m, e, hm, hr, c0, c1, c2, c3⟩

set_option maxRecDepth 100000 in
set_option maxHeartbeats 8000000 in
theorem splitOrder_walk (a : Option Addr) (n cap : Nat) (ms : List Msg) (pa : Option Addr) (pn pc : Nat) (ps : List Int) (w : World) (h : RdM w a n ms) (hb : ∀ m ∈ ms, ∀ s ∈ m.1, ∀ b ∈ s.2, 0 ≤ b ∧ b < 256) (hp : RdU w pa pn ps) (hpb : ∀ b ∈ ps, 0 ≤ b ∧ b < 256) :
    Calls Try.prog 6 #[.slice a n cap, .slice pa pn pc] w fun e w' => e = .returned (.bool true) ∧ Below w.heap.size w w' := by
  have HF := Lib.hid (few_any a n cap ms w h)
  have H := Lib.hid h
  have HB := Lib.hid hb
  have HP := Lib.hid hp
  have HPB := Lib.hid hpb
  have HL := Lib.hid h.len
  clear h hb hp hpb
  obtain ⟨i42, hi42, hz42a, hz42b, hz42c⟩ := info_parts info42
  go_enter Try.func6, Try.ntmps6
  go_wp2_with fail
  refine HF.out.mono ?_
  rintro e w1 ⟨⟨f, rfl, hf⟩, b1⟩
  cases f with
  | false =>
    go_wp2_with fail
    refine (example_any _).mono ?_
    rintro e w2 ⟨rfl, b2⟩
    go_wp2
    go_ret
    exact ⟨rfl, below_tr b1 b1.size b2⟩
  | true =>
    have hfew := hf rfl
    have HSH := Lib.hid (hfew.short HB.out)
    have hn40 : n ≤ 40 := by have := hfew.1; rw [HL.out] at this; exact this
    clear hf hfew HF
    by_cases hn0 : n = 0
    · have hn0' : ((n : Int) == 0) = true := by simp; omega
      go_wp2_with fail
      refine (example_any _).mono ?_
      rintro e w2 ⟨rfl, b2⟩
      go_wp2
      go_ret
      exact ⟨rfl, below_tr b1 b1.size b2⟩
    have hn0' : ((n : Int) == 0) = false := by simp; omega
    by_cases hp40 : 40 < pn
    · have hp' : decide (40 < (pn : Int)) = true := by simp; omega
      go_wp2_with fail
      refine (example_any _).mono ?_
      rintro e w2 ⟨rfl, b2⟩
      go_wp2
      go_ret
      exact ⟨rfl, below_tr b1 b1.size b2⟩
    have hp' : decide (40 < (pn : Int)) = false := by simp; omega
    have hdp : (0 : Int) < (n : Int) := by omega
    go_wp2_with fail
    go_loopg [5, 6] pn (fun r v x wr => ∃ (k : Nat) (qs : List Qm), k + r = pn ∧ x = .int .i64 k ∧ qs.length = k ∧ wr.ownsRow w1.heap.size 42 4 v qs.length (flatQ qs) ∧ Below w1.heap.size w1 wr ∧ Hid (∀ q ∈ qs, RdS w1 q.1 q.2.2.1.length q.2.2.1 ∧ q.2.2 ∈ ms))
    case atStart => exact ⟨0, [], by omega, rfl, rfl, World.ownsRow_nil _ _ _ _, Below.refl _ _, Lib.hid (by simp)⟩
    case round =>
      obtain ⟨k, qs, hk, rfl, hql, hown, hB, hQ⟩ := hrel
      have hBs := hB.size
      by_cases hlt : k < pn
      · obtain ⟨pb, po, c, rfl, hpc, hpd⟩ := ((HP.out.below b1).below hB).at k hlt
        have hcb := HPB.out c (List.mem_of_getElem? (getElem?_of_drop hpd))
        obtain ⟨c, rfl⟩ := Int.eq_ofNat_of_zero_le hcb.1
        have hmod : c % n < n := Nat.mod_lt _ (by omega)
        obtain ⟨b, off, sa, sc, m, rfl, hmk, hrs, c0, c1, c2, c3⟩ := (H.out.below b1).get (c % n) hmod
        have hlb := lt_of_cell c1
        have d0 := (hB.cell (p := ⟨b, off + c % n * 4, none⟩) hlb).trans c0
        have d1 := (hB.cell (p := ⟨b, off + c % n * 4 + 1, none⟩) hlb).trans c1
        have d2 := (hB.cell (p := ⟨b, off + c % n * 4 + 2, none⟩) hlb).trans c2
        have d3 := (hB.cell (p := ⟨b, off + c % n * 4 + 3, none⟩) hlb).trans c3
        have q0 : (0 : Int) ≤ (k : Int) := by omega
        have q1 : (k : Int) < (pn : Int) := by omega
        have q2 : (0 : Int) ≤ ((c % n : Nat) : Int) := by omega
        have q3 : ((c % n : Nat) : Int) < (n : Int) := by omega
        have hrem : Int.tmod (c : Int) (n : Int) = ((c % n : Nat) : Int) := rfl
        have hcl : c < 256 := by omega
        have hne : ¬ (n : Int) = 0 := by omega
        clear c0 c1 c2 c3 hpd hcb
        have hmem := List.mem_of_getElem? hmk
        have HQ2 : Hid (∀ q ∈ qs ++ [(sa, sc, m)], RdS w1 q.1 q.2.2.1.length q.2.2.1 ∧ q.2.2 ∈ ms) := Lib.hid (by
          intro q hq
          rcases List.mem_append.1 hq with hq | hq
          · exact hQ.out q hq
          · simp at hq; subst hq; exact ⟨hrs, hmem⟩)
        clear hQ hrs hmem hmk
        go_wp2_with (at_builtin; refine wpList_append_own _ rfl _ _ 33 rfl w1.heap.size 42 i42 (.agg #[.slice none 0 0, .int .i64 0, .int .i64 0, .int .i64 0]) 4 48 Try.underlying33 hi42 hz42a hz42b hz42c rfl (by decide) _ _ _ rfl (hown.alloc _) ⟨wr.heap.size, 0, none⟩ 1 1 (cellsQ (sa, sc, m)) rfl rfl (cells_new2 _ _ _ rfl) (by simp [cellsQ, Value.oneCell']) ?c3 ?c4 ?c5 ?_)
        case c3 => unfold maxLen; omega
        case c4 => omega
        case c5 => omega
        intro v7 w7 hown7 hgrow7 _
        have hB7 : Below w1.heap.size w1 w7 := below_app3 hB hBs hown hgrow7
        clear hgrow7 hown
        go_wp2_with fail
        go_roundg (pn - (k + 1))
        case rel => exact ⟨k + 1, qs ++ [(sa, sc, m)], by omega, by go_num, by simp; omega, own_congr3 hown7 (by simp; omega) (flatQ_snoc _ _).symm, hB7, HQ2⟩
        case measure => omega
      · obtain rfl : k = pn := by omega
        have H1 := Lib.hid (H.out.below b1)
        clear hlt HP HPB
        go_wp2_with fail
        go_loopg [5, 7] n (fun r v x wr => ∃ (j : Nat) (qs : List Qm), j + r = n ∧ x = .int .i64 ((n : Int) - 1 - j) ∧ qs.length = k + j ∧ wr.ownsRow w1.heap.size 42 4 v qs.length (flatQ qs) ∧ Below w1.heap.size w1 wr ∧ Hid (∀ q ∈ qs, RdS w1 q.1 q.2.2.1.length q.2.2.1 ∧ q.2.2 ∈ ms) ∧ Hid (∀ m ∈ ms.drop (n - j), ∃ q ∈ qs, q.2.2 = m))
        case atStart => exact ⟨0, qs, by omega, by go_num, by omega, hown, hB, hQ, Lib.hid (by intro m hm; rw [List.drop_of_length_le (by rw [HL.out]; omega)] at hm; cases hm)⟩
        case round =>
          clear hown hB hQ hBs hql hk
          obtain ⟨j, qs, hj, rfl, hql, hown, hB, hQ, hD⟩ := hrel
          have hBs := hB.size
          by_cases hlt : j < n
          · obtain ⟨b, off, sa, sc, m, rfl, hmk, hrs, c0, c1, c2, c3⟩ := H1.out.get (n - 1 - j) (by omega)
            have hlb := lt_of_cell c1
            have d0 := (hB.cell (p := ⟨b, off + (n - 1 - j) * 4, none⟩) hlb).trans c0
            have d1 := (hB.cell (p := ⟨b, off + (n - 1 - j) * 4 + 1, none⟩) hlb).trans c1
            have d2 := (hB.cell (p := ⟨b, off + (n - 1 - j) * 4 + 2, none⟩) hlb).trans c2
            have d3 := (hB.cell (p := ⟨b, off + (n - 1 - j) * 4 + 3, none⟩) hlb).trans c3
            have hmem := List.mem_of_getElem? hmk
            have HQ2 : Hid (∀ q ∈ qs ++ [(sa, sc, m)], RdS w1 q.1 q.2.2.1.length q.2.2.1 ∧ q.2.2 ∈ ms) := Lib.hid (by
              intro q hq
              rcases List.mem_append.1 hq with hq | hq
              · exact hQ.out q hq
              · simp at hq; subst hq; exact ⟨hrs, hmem⟩)
            have HD2 : Hid (∀ m' ∈ ms.drop (n - (j + 1)), ∃ q ∈ qs ++ [(sa, sc, m)], q.2.2 = m') := Lib.hid (by
              intro m' hm'
              have hlt' : n - (j + 1) < ms.length := by rw [HL.out]; omega
              rw [List.drop_eq_getElem_cons hlt'] at hm'
              rcases List.mem_cons.1 hm' with hm' | hm'
              · refine ⟨(sa, sc, m), by simp, ?_⟩
                rw [hm']
                have : ms[n - 1 - j]? = some ms[n - (j + 1)] := by rw [show n - 1 - j = n - (j + 1) by omega]; exact List.getElem?_eq_getElem hlt'
                rw [hmk] at this
                exact Option.some.inj this
              · rw [show n - (j + 1) + 1 = n - j by omega] at hm'
                obtain ⟨q, hq, e⟩ := hD.out m' hm'
                exact ⟨q, by simp [hq], e⟩)
            have hi1 : (n : Int) - 1 - (j : Int) = ((n - 1 - j : Nat) : Int) := by omega
            have q0 : decide ((0 : Int) ≤ ((n - 1 - j : Nat) : Int)) = true := by simp
            have q1 : (0 : Int) ≤ ((n - 1 - j : Nat) : Int) := by omega
            have q2 : ((n - 1 - j : Nat) : Int) < (n : Int) := by omega
            clear hQ hD hrs hmem hmk c0 c1 c2 c3
            rw [hi1]
            obtain ⟨ij, hij⟩ : ∃ ij, n - 1 - j = ij := ⟨_, rfl⟩
            rw [hij] at q0 q1 q2 d0 d1 d2 d3
            rw [hij]
            go_wp2_with (at_builtin; refine wpList_append_own _ rfl _ _ 33 rfl w1.heap.size 42 i42 (.agg #[.slice none 0 0, .int .i64 0, .int .i64 0, .int .i64 0]) 4 48 Try.underlying33 hi42 hz42a hz42b hz42c rfl (by decide) _ _ _ rfl (hown.alloc _) ⟨wr.heap.size, 0, none⟩ 1 1 (cellsQ (sa, sc, m)) rfl rfl (cells_new2 _ _ _ rfl) (by simp [cellsQ, Value.oneCell']) ?c3 ?c4 ?c5 ?_)
            case c3 => unfold maxLen; omega
            case c4 => omega
            case c5 => omega
            intro v7 w7 hown7 hgrow7 _
            have hB7 : Below w1.heap.size w1 w7 := below_app3 hB hBs hown hgrow7
            clear hgrow7 hown
            go_wp2_with fail
            go_roundg (n - (j + 1))
            case rel => exact ⟨j + 1, qs ++ [(sa, sc, m)], by omega, by (first | go_num | (congr 1; omega)), by simp; omega, own_congr3 hown7 (by simp; omega) (flatQ_snoc _ _).symm, hB7, HQ2, HD2⟩
            case measure => omega
          · obtain rfl : j = n := by omega
            have hset : ∀ m, m ∈ ms ↔ m ∈ qs.map (·.2.2) := fun m => by
              rw [List.mem_map]
              constructor
              · intro hm
                have hD' := hD.out
                rw [Nat.sub_self, List.drop_zero] at hD'
                exact hD' m hm
              · rintro ⟨q, hq, rfl⟩
                exact (hQ.out q hq).2
            obtain ⟨oa, oc, rfl, hro⟩ := own_rdM hown fun q hq => (hQ.out q hq).1.below hB
            obtain ⟨es1, es2⟩ := set_same hset
            have hsho : ShortM (qs.map (·.2.2)) := fun m hm => HSH.out m ((hset m).2 hm)
            have hlo : qs.length ≤ 1000 := by omega
            have RO := Lib.hid hro
            have HSO := Lib.hid hsho
            have J1 := Lib.hid (join_any a j cap ms wr (H1.out.below hB) (by omega) HSH.out)
            have E1 := Lib.hid es1
            have E2 := Lib.hid es2
            have RM := Lib.hid (H1.out.below hB)
            have hBw : Below w.heap.size w wr := below_tr b1 b1.size hB
            have hneg : decide ((0 : Int) ≤ (j : Int) - 1 - (j : Int)) = false := by simp; omega
            have hneg2 : decide ((0 : Int) ≤ -1) = false := by decide
            have hm1 : (j : Int) - 1 - (j : Int) = -1 := by omega
            clear hset es1 es2 hsho hro hown hQ hD H1 H HB b1 hB hBs hql
            obtain ⟨Jf, hJf⟩ : ∃ Jf, joinF ms = Jf := ⟨_, rfl⟩
            obtain ⟨Mf, hMf⟩ : ∃ Mf, missF ms = Mf := ⟨_, rfl⟩
            have E1' : joinF (qs.map (·.2.2)) = Jf := E1.out.symm.trans hJf
            have E2' : missF (qs.map (·.2.2)) = Mf := E2.out.symm.trans hMf
            rw [hJf] at J1
            have HE1 := Lib.hid E1'
            have HE2 := Lib.hid E2'
            have HMf := Lib.hid hMf
            obtain ⟨Jc, Jl⟩ := Jf
            obtain ⟨Mc, Ml⟩ := Mf
            simp only at J1
            clear E1 E2 E1' E2' hJf hMf
            rw [hm1]
            go_wp2_with fail
            refine J1.out.mono ?_
            rintro e w2 hret
            obtain ⟨a2, cap2, rfl, r2, d2⟩ := hret.open
            have J2 := Lib.hid (join_any oa _ oc _ w2 (RO.out.below d2) hlo HSO.out)
            rw [HE1.out] at J2
            have R2 := Lib.hid r2
            simp only at J2
            clear hret r2 J1
            go_wp2_with fail
            refine J2.out.mono ?_
            rintro e w3 hret
            obtain ⟨a3, cap3, rfl, r3, d3⟩ := hret.open
            have R2' := Lib.hid (R2.out.below d3)
            replace d3 := below_tr d2 d2.size d3
            have R3 := Lib.hid r3
            have M1 := Lib.hid (missing_any a j cap ms w3 (RM.out.below d3) (by omega) HSH.out)
            rw [HMf.out] at M1
            simp only at M1
            clear hret r3 J2 R2 d2
            go_wp2_with fail
            refine M1.out.mono ?_
            rintro e w4 hret
            obtain ⟨a4, cap4, rfl, r4, d4⟩ := hret.open
            have R2'' := Lib.hid (R2'.out.below d4)
            have R3' := Lib.hid (R3.out.below d4)
            replace d4 := below_tr d3 d3.size d4
            have R4 := Lib.hid r4
            have M2 := Lib.hid (missing_any oa _ oc _ w4 (RO.out.below d4) hlo HSO.out)
            rw [HE2.out] at M2
            simp only at M2
            clear hret r4 M1 R2' R3 d3
            go_wp2_with fail
            refine M2.out.mono ?_
            rintro e w5 hret
            obtain ⟨a5, cap5, rfl, r5, d5⟩ := hret.open
            have cv1 := conv_any cap2 (R2''.out.below d5)
            have cv2 := conv_any cap3 (R3'.out.below d5)
            have S1 := Lib.hid (same_any a4 a5 Ml.length cap4 Ml.length cap5 Ml Ml w5 (R4.out.below d5) r5)
            rw [show decide (Ml = Ml) = true from by simp] at S1
            replace d5 := below_tr d4 d4.size d5
            clear hret r5 M2 R2'' R3' R4 d4
            go_wp2_with fail
            refine S1.out.mono ?_
            rintro e w6 ⟨rfl, d6⟩
            replace d6 := below_tr d5 d5.size d6
            clear S1 cv1 cv2 d5
            go_wp2_with fail
            refine (example_any _).mono ?_
            rintro e w7 ⟨rfl, d7⟩
            replace d7 := below_tr d6 d6.size d7
            go_wp2
            go_ret
            exact ⟨rfl, below_tr hBw hBw.size d7⟩

end Go.Proofs.Ytifgpjhodajccaa
