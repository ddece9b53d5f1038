/-
  How messages are read; the walk of split.collect. Condition: the messages are few and short.
-/
import Derived.Test.YtifgpjhodajccaaWalkO
namespace Go.Proofs.Ytifgpjhodajccaa
open Go.RowKit

/-- A message in memory: its segments, its header. -/
structure MsgR (w : World) (b o : Nat) (m : Msg) : Prop where
  s : ∃ sa sc, w.cell? ⟨b, o, none⟩ = some (.slice sa m.1.length sc) ∧ RdS w sa m.1.length m.1
  i : w.cell? ⟨b, o + 1, none⟩ = some (.int .i64 m.2.1)
  t : w.cell? ⟨b, o + 2, none⟩ = some (.int .i64 m.2.2.1)
  p : w.cell? ⟨b, o + 3, none⟩ = some (.int .i64 m.2.2.2)

theorem MsgR.below {w w' : World} {b o : Nat} {m : Msg} (h : MsgR w b o m) (hb : Below w.heap.size w w') : MsgR w' b o m := by
  have hl := lt_of_cell h.i
  obtain ⟨sa, sc, h1, h2⟩ := h.s
  exact ⟨⟨sa, sc, (hb.cell (p := ⟨b, o, none⟩) hl).trans h1, h2.below hb⟩, (hb.cell (p := ⟨b, o + 1, none⟩) hl).trans h.i, (hb.cell (p := ⟨b, o + 2, none⟩) hl).trans h.t, (hb.cell (p := ⟨b, o + 3, none⟩) hl).trans h.p⟩

/-- A slice of messages. -/
structure RdM (w : World) (a : Option Addr) (n : Nat) (ms : List Msg) : Prop where
  len : ms.length = n
  le : n ≤ 9223372036854775807
  msg : ∀ k, k < n → ∃ b off, a = some ⟨b, off, none⟩ ∧ ∀ m, ms[k]? = some m → MsgR w b (off + k * 4) m

theorem RdM.below {w w' : World} {a : Option Addr} {n : Nat} {ms : List Msg} (h : RdM w a n ms) (hb : Below w.heap.size w w') : RdM w' a n ms :=
  ⟨h.len, h.le, fun k hk => let ⟨b, off, e, hs⟩ := h.msg k hk; ⟨b, off, e, fun m h1 => (hs m h1).below hb⟩⟩

theorem RdM.at {w : World} {a : Option Addr} {n : Nat} {ms : List Msg} (h : RdM w a n ms) (k : Nat) (hk : k < n) : ∃ b off m, a = some ⟨b, off, none⟩ ∧ ms[k]? = some m ∧ MsgR w b (off + k * 4) m ∧ ms.drop k = m :: ms.drop (k + 1) := by
  obtain ⟨b, off, e, hs⟩ := h.msg k hk
  have hkl : k < ms.length := by rw [h.len]; exact hk
  exact ⟨b, off, ms[k], e, List.getElem?_eq_getElem hkl, hs _ (List.getElem?_eq_getElem hkl), List.drop_eq_getElem_cons hkl⟩

/-- Short messages. -/
def ShortM (ms : List Msg) : Prop := ∀ m ∈ ms, m.1.length ≤ 10 ∧ (joinS m.1).length ≤ 2000 ∧ ∀ c ∈ joinS m.1, 0 ≤ c ∧ c < 256

/-- What collect answers. -/
def CollP (ms : List Msg) (w : World) (e : Ending) (w' : World) : Prop :=
  Below w.heap.size w w' ∧ ∃ mv i t p err, e = .returned (.tuple #[mv, .agg #[.int .i64 i, .int .i64 t, .int .i64 p], .int .i64 err]) ∧ err = (collF ms).1 ∧ (i, t, p) = (collF ms).2.2 ∧
    (err = 0 → ∃ b, mv = .map (some b) ∧ MapB w' b (collF ms).2.1)

theorem below_grown2 {B : Nat} {w wr w' : World} {b : Nat} (hB : Below B w wr) (hb : B ≤ b) (hs : B ≤ wr.heap.size) (hg : wr.grownBy w' (some b)) : Below B w w' :=
  hB.grown hg hs (by intro k hk; cases hk; exact hb)

theorem res25 (tmps : Array Value) (w : World) (g : Nat) (mv i t p er : Value) (h2 : tmps.getD 2 undef = mv) (h3 : tmps.getD 3 undef = .pointer (some ⟨g, 0, none⟩)) (h4 : tmps.getD 4 undef = er) (hg : w.heap[g]? = some (.cells #[i, t, p] 40 (0, 0))) :
    (results Try.f25 tmps).run Try.prog w = .ok (.tuple #[mv, .agg #[i, t, p], er]) w := by
  have hl := run_loadVar_row (P := Try.prog) w g 40 40 #[i, t, p] (0, 0) _ hg Try.underlying40 rfl (by kernel_rfl)
  have h2' : tmps[2]?.getD undef = mv := by simpa using h2
  have h3' : tmps[3]?.getD undef = .pointer (some ⟨g, 0, none⟩) := by simpa using h3
  have h4' : tmps[4]?.getD undef = er := by simpa using h4
  simp [results, Try.results25, h2', h3', h4', asAddr, hl]

theorem collF_bad {ms : List Msg} {m : Msg} (hm : m ∈ ms) (hv : validF m.2 = false) : collF ms = (1, [], (0, 0, 0)) := by
  cases ms with
  | nil => cases hm
  | cons a r =>
    have : ((a :: r).all fun m => validF m.2) = false := by
      rw [List.all_eq_false]; exact ⟨m, hm, by simp [hv]⟩
    unfold collF
    simp only [this]
    rfl

theorem valid_ix {i t p : Int} (h : validF (i, t, p) = true) : 0 ≤ i ∧ i < 16 ∧ 0 ≤ t ∧ t ≤ 16 ∧ 0 ≤ p ∧ p ≤ 255 := by
  unfold validF at h
  simp at h
  omega

theorem collF_ok {ms r : List Msg} {m0 : Msg} (hd : ms = m0 :: r) (hv : ms.all (fun m => validF m.2) = true) : collF ms = collE m0.2 (collGo m0.2.2.1 m0.2.2.2 ms []) := by
  subst hd
  unfold collF
  simp only [hv, if_true]

theorem collGo_bad {t p : Int} {m : Msg} {r : List Msg} {L : Tab} (h : m.2.2.1 ≠ t ∨ m.2.2.2 ≠ p) : collGo t p (m :: r) L = none := by
  rw [collGo, if_pos h]

theorem collGo_new {t p : Int} {ss : List Sg} {i : Int} {r : List Msg} {L : Tab} (h : lookL L i = none) : collGo t p ((ss, i, t, p) :: r) L = collGo t p r (L ++ [(i, joinS ss)]) := by
  rw [collGo, if_neg (by simp)]
  simp only [h]

theorem collGo_same {t p : Int} {ss : List Sg} {i : Int} {r : List Msg} {L : Tab} (h : lookL L i = some (joinS ss)) : collGo t p ((ss, i, t, p) :: r) L = collGo t p r L := by
  rw [collGo, if_neg (by simp)]
  simp only [h, if_true]

theorem collGo_other {t p : Int} {ss : List Sg} {i : Int} {r : List Msg} {L : Tab} {x : List Int} (h : lookL L i = some x) (hx : x ≠ joinS ss) : collGo t p ((ss, i, t, p) :: r) L = none := by
  rw [collGo, if_neg (by simp)]
  simp only [h, if_neg hx]

theorem set3_heap {w : World} {g : Nat} {a b c : Value} (hg : w.heap[g]? = some (.cells #[a, b, c] 40 (0, 0))) (x y z : Value) :
    (((w.setCell ⟨g, 0, none⟩ x).setCell ⟨g, 1, none⟩ y).setCell ⟨g, 2, none⟩ z).drew.heap[g]? = some (.cells #[x, y, z] 40 (0, 0)) := by
  have h1 := heap_setCell_same w g 0 _ 40 x hg
  have h2 := heap_setCell_same _ g 1 _ 40 y h1
  have h3 := heap_setCell_same _ g 2 _ 40 z h2
  exact h3.trans (by simp)

theorem MapB.chg {w w' : World} {b g : Nat} {L : Tab} {x y z : Int} (h : MapB w b L) (hg : w.heap[g]? = some (.cells #[.int .i64 x, .int .i64 y, .int .i64 z] 40 (0, 0))) (hk : ∀ k, k ≠ g → w'.heap[k]? = w.heap[k]?) : MapB w' b L := by
  obtain ⟨es, h1, h2, h3⟩ := h.es
  have hbg : b ≠ g := fun e => by rw [e, hg] at h1; cases h1
  refine ⟨h.nd, h.kb, es, (hk b hbg).trans h1, h2, fun i v hv => ?_⟩
  obtain ⟨u, e1, e2⟩ := h3 i v hv
  refine ⟨u, e1, ?_⟩
  obtain ⟨a, c, e3, hr, e4⟩ := e2.ex
  refine ⟨a, c, e3, ⟨hr.len, hr.le, fun k hk2 => ?_⟩, e4⟩
  obtain ⟨q, off, e5, hc⟩ := hr.cell k hk2
  refine ⟨q, off, e5, ?_⟩
  have hqg : q ≠ g := by
    intro e
    subst e
    rw [cell_of_row _ _ _ _ _ _ hg] at hc
    have hl := hr.length
    have hk3 : k < v.2.length := by omega
    have hgd : (v.2.map (Value.int .u8)).getD k undef = .int .u8 v.2[k] := by simp [hk3]
    rw [hgd] at hc
    match off + k, hc with
    | 0, hc => simp at hc
    | 1, hc => simp at hc
    | 2, hc => simp at hc
    | n + 3, hc => simp at hc
  rw [World.cell?_of_block (w := w) (hk q hqg), hc]

theorem hi40 (i t p : Int) : (Try.prog.info? 40).map (·.size) = some (#[Value.int .i64 i, .int .i64 t, .int .i64 p]).size := by kernel_rfl
theorem all40 (i t p : Int) : (#[Value.int .i64 i, .int .i64 t, .int .i64 p]).all (·.oneCell') = true := by simp [Value.oneCell']

/-- A header is laid into a block of a header. -/
theorem wpList_hd {ops : Array Oper} {rest : List Oper} {o : Oper} {a : Act} {w : World} {Q : Exit → Act → World → Prop} (hgd : o.guard = none) (x y : Operand) (ho : o.op = .store 40 x y)
    (g : Nat) (i t p i' t' p' : Int) (hx : a.eval x = .pointer (some ⟨g, 0, none⟩)) (hy : a.eval y = .agg #[.int .i64 i, .int .i64 t, .int .i64 p]) (hg : w.heap[g]? = some (.cells #[.int .i64 i', .int .i64 t', .int .i64 p'] 40 (0, 0)))
    (h : wpList Try.prog ops Q rest (a.put o.dst undef) (w.setRow g #[.int .i64 i, .int .i64 t, .int .i64 p])) : wpList Try.prog ops Q (o :: rest) a w :=
  wpList_store_row hgd 40 x y ho g _ hx hy 40 _ hg (hi40 i t p) rfl (all40 i t p) h

set_option maxRecDepth 100000 in
set_option maxHeartbeats 8000000 in
theorem collect_any (a : Option Addr) (n cap : Nat) (ms : List Msg) (w : World) (h : RdM w a n ms) (hn : n ≤ 1000) (hsh : ShortM ms) :
    Calls Try.prog 25 #[.slice a n cap] w (CollP ms w) := by
  have H := Lib.hid h
  have HL := Lib.hid h.len
  have HS := Lib.hid hsh
  clear h hsh
  by_cases hn0 : n = 0
  · subst hn0
    have hms : ms = [] := List.eq_nil_of_length_eq_zero HL.out
    subst hms
    go_enter Try.func25, Try.ntmps25
    go_wp2_with fail
    refine bodyPost_ret (res25 _ _ w.heap.size (.map none) (.int .i64 0) (.int .i64 0) (.int .i64 0) (.int .i64 5) rfl rfl rfl (by show (w.heap.push _)[w.heap.size]? = _; simp)) rfl ?_
    exact ⟨(Below.refl _ _).alloc (Nat.le_refl _) _, _, 0, 0, 0, 5, rfl, rfl, rfl, fun h => by cases h⟩
  · have hW0 : (w.alloc (.cells #[.int .i64 0, .int .i64 0, .int .i64 0] 40)).heap[w.heap.size]? = some (.cells #[.int .i64 0, .int .i64 0, .int .i64 0] 40 (0, 0)) := by
      show (w.heap.push _)[w.heap.size]? = _; simp
    have hB0 : Below w.heap.size w (w.alloc (.cells #[.int .i64 0, .int .i64 0, .int .i64 0] 40)) := (Below.refl _ _).alloc (Nat.le_refl _) _
    have hS0 : (w.alloc (.cells #[.int .i64 0, .int .i64 0, .int .i64 0] 40)).heap.size = w.heap.size + 1 := by simp
    have hnz : ((n : Int) == 0) = false := by simp; omega
    go_enter Try.func25, Try.ntmps25
    go_wp2_with fail
    generalize hw0 : w.alloc (.cells #[.int .i64 0, .int .i64 0, .int .i64 0] 40) = w0 at *
    go_loopg [20] n (fun r x wr => ∃ k : Nat, k + r = n ∧ x = .int .i64 k ∧ Below w0.heap.size w0 wr ∧ Hid ((ms.take k).all (fun m => validF m.2) = true))
    case atStart => exact ⟨0, by omega, rfl, Below.refl _ _, rfl⟩
    case round =>
      obtain ⟨k, hk, rfl, hB, hV⟩ := hrel
      by_cases hlt : k < n
      · obtain ⟨b, off, m, rfl, hmk, hmr, hd⟩ := ((H.out.below hB0).below hB).at k hlt
        obtain ⟨⟨sa, sc, c0, hrs⟩, c1, c2, c3⟩ := hmr
        have q0 : (0 : Int) ≤ (k : Int) := by omega
        have q1 : (k : Int) < (n : Int) := by omega
        have hmem : m ∈ ms := List.mem_of_getElem? hmk
        have hr3 : wr.heap[w.heap.size]? = some (.cells #[.int .i64 0, .int .i64 0, .int .i64 0] 40 (0, 0)) := (hB.block _ (by omega)).trans hW0
        have hs3 := hB.size
        cases hv : validF (m.2.1, m.2.2.1, m.2.2.2) with
        | false =>
          go_wp2_with fail
          refine (valid_any _ _ _ _).mono ?_
          rw [hv]
          rintro e w7 ⟨rfl, hb7⟩
          have hb7' := hb7.mono (show wr.heap.size ≤ _ by simp)
          have hb8 : Below wr.heap.size wr w7 := ((Below.refl _ _).alloc (Nat.le_refl _) _).trans hb7'
          have hr7 : w7.heap[w.heap.size]? = some (.cells #[.int .i64 0, .int .i64 0, .int .i64 0] 40 (0, 0)) := (hb8.block _ (by omega)).trans hr3
          go_wp2_with (refine wpList_hd rfl (.tmp 3) (.tmp 28) rfl w.heap.size 0 0 0 0 0 0 rfl rfl hr7 ?_)
          refine bodyPost_ret (res25 _ _ w.heap.size (.map none) (.int .i64 0) (.int .i64 0) (.int .i64 0) (.int .i64 1) rfl rfl rfl (setRow_heap _ _ _ _ _ _ hr7)) rfl ?_
          have hcf := collF_bad hmem hv
          refine ⟨below_setRow (hB0.trans ((hB.mono (by omega)).trans (hb8.mono (by omega)))) (Nat.le_refl _) _, _, 0, 0, 0, 1, rfl, ?_, ?_, fun h => by cases h⟩
          · rw [hcf]
          · rw [hcf]
        | true =>
          go_wp2_with fail
          refine (valid_any _ _ _ _).mono ?_
          rw [hv]
          rintro e w7 ⟨rfl, hb7⟩
          have hb7' := hb7.mono (show wr.heap.size ≤ _ by simp)
          have hb8 : Below wr.heap.size wr w7 := ((Below.refl _ _).alloc (Nat.le_refl _) _).trans hb7'
          go_wp2_with fail
          go_roundg (n - (k + 1))
          case rel => exact ⟨k + 1, by omega, by go_num, hB.trans (hb8.mono hB.size), Lib.hid (by rw [List.take_add_one, hmk, List.all_append, hV.out]; have hv' : validF m.2 = true := hv; simp [hv'])⟩
          case measure => omega
      · obtain ⟨ws, hws⟩ : ∃ ws, ws = wr := ⟨_, rfl⟩
        subst hws
        obtain rfl : k = n := by omega
        have hVA : ms.all (fun m => validF m.2) = true := by rw [← hV.out, List.take_of_length_le (by rw [HL.out]; exact Nat.le_refl _)]
        have HVA := Lib.hid hVA
        clear hV
        obtain ⟨b, off, m0, rfl, hmk0, ⟨_, c1, c2, c3⟩, hd0⟩ := ((H.out.below hB0).below hB).at 0 (by omega)
        obtain ⟨ss0, i0, t0, p0⟩ := m0
        simp only at c1 c2 c3
        have hcf : collF ms = collE (i0, t0, p0) (collGo t0 p0 ms []) := collF_ok (m0 := (ss0, i0, t0, p0)) (by simpa using hd0) hVA
        have HCF := Lib.hid hcf
        clear hcf hVA
        have hs3 := hB.size
        have hr3 : ws.heap[w.heap.size]? = some (.cells #[.int .i64 0, .int .i64 0, .int .i64 0] 40 (0, 0)) := (hB.block _ (by omega)).trans hW0
        have hmm := @run_makeMap Try.prog
        have hkk : (0 : Int) < (k : Int) := by omega
        have hBw : Below w.heap.size w ws := hB0.trans (hB.mono (by omega))
        clear hlt
        go_wp2_with fail
        generalize hw1 : ws.alloc (.cells #[.int .i64 i0, .int .i64 t0, .int .i64 p0] 40) = w1 at *
        have hr1 : w1.heap[ws.heap.size]? = some (.cells #[.int .i64 i0, .int .i64 t0, .int .i64 p0] 40 (0, 0)) := by
          rw [← hw1]; show (ws.heap.push _)[ws.heap.size]? = _; simp
        have hs1 : w1.heap.size = ws.heap.size + 1 := by rw [← hw1]; simp
        have hb1 : Below w.heap.size w w1 := by rw [← hw1]; exact hBw.alloc hBw.size _
        have hr31 : w1.heap[w.heap.size]? = some (.cells #[.int .i64 0, .int .i64 0, .int .i64 0] 40 (0, 0)) := by rw [← hw1, Below.heap_alloc _ _ _ (by omega)]; exact hr3
        have hnew := MapB.new w1
        have hbm : Below w1.heap.size w1 (w1.alloc (.map #[] 0)) := (Below.refl _ _).alloc (Nat.le_refl _) _
        go_loopg [37] k (fun r x wz => ∃ (j : Nat) (L : Tab), j + r = k ∧ x = .int .i64 j ∧ Below w1.heap.size w1 wz ∧ w1.heap.size < wz.heap.size ∧ MapB wz w1.heap.size L ∧ Hid (collGo t0 p0 (ms.drop j) L = collGo t0 p0 ms []) ∧ Hid (∀ x ∈ L, ∀ c ∈ x.2, 0 ≤ c ∧ c < 256))
        case atStart => exact ⟨0, [], by omega, rfl, hbm, by simp, hnew, rfl, Lib.hid (by simp)⟩
        case round =>
          obtain ⟨wz, hwz⟩ : ∃ wz, wz = wr := ⟨_, rfl⟩
          subst hwz
          obtain ⟨j, L, hj, rfl, hBz, hsz, hM, hC, hby⟩ := hrel
          have hne1 : ¬ ws.heap.size = wz.heap.size := by omega
          have hne2 : ¬ w.heap.size = wz.heap.size := by omega
          have hr1z : wz.heap[ws.heap.size]? = some (.cells #[.int .i64 i0, .int .i64 t0, .int .i64 p0] 40 (0, 0)) := (hBz.block _ (by omega)).trans hr1
          have hr3z : wz.heap[w.heap.size]? = some (.cells #[.int .i64 0, .int .i64 0, .int .i64 0] 40 (0, 0)) := (hBz.block _ (by omega)).trans hr31
          have hr3a : ∀ o : Obj, (wz.alloc o).heap[w.heap.size]? = some (.cells #[.int .i64 0, .int .i64 0, .int .i64 0] 40 (0, 0)) := fun o => (Below.heap_alloc _ _ _ (by omega)).trans hr3z
          have y1 : ∀ o : Obj, (wz.alloc o).cell? ⟨ws.heap.size, 1, none⟩ = some (.int .i64 t0) := fun o => cell_of_blk (j := 1) ((Below.heap_alloc _ _ _ (by omega)).trans hr1z) _ rfl
          have y2 : ∀ o : Obj, (wz.alloc o).cell? ⟨ws.heap.size, 2, none⟩ = some (.int .i64 p0) := fun o => cell_of_blk (j := 2) ((Below.heap_alloc _ _ _ (by omega)).trans hr1z) _ rfl
          by_cases hlt : j < k
          · obtain ⟨b', off', m, eb, hmk, hmr, hd⟩ := ((H.out.below hb1).below hBz).at j hlt
            cases eb
            obtain ⟨ss, i1, t1, p1⟩ := m
            obtain ⟨⟨sa, sc, c0, hrs⟩, c1, c2, c3⟩ := hmr
            simp only at c0 c1 c2 c3 hrs
            have hmem := List.mem_of_getElem? hmk
            have hvm : validF (i1, t1, p1) = true := (List.all_eq_true.1 HVA.out) _ hmem
            have hix := valid_ix hvm
            obtain ⟨hl10, hl20, hbyte⟩ := HS.out _ hmem
            have q0 : (0 : Int) ≤ (j : Int) := by omega
            have q1 : (j : Int) < (k : Int) := by omega
            have hbad : ∀ w9 : World, Below wz.heap.size wz w9 → collGo t0 p0 ms [] = none → CollP ms w (.returned (.tuple #[.map none, .agg #[.int .i64 0, .int .i64 0, .int .i64 0], .int .i64 34])) (w9.setRow w.heap.size #[.int .i64 0, .int .i64 0, .int .i64 0]) := by
              intro w9 hb9 hnone
              have hcf : collF ms = (34, [], (0, 0, 0)) := by rw [HCF.out, hnone]; rfl
              refine ⟨below_setRow (hb1.trans ((hBz.mono (by omega)).trans (hb9.mono (by omega)))) (Nat.le_refl _) _, _, 0, 0, 0, 34, rfl, ?_, ?_, fun h => by cases h⟩
              · rw [hcf]
              · rw [hcf]
            have HBAD := Lib.hid hbad
            clear hbad
            by_cases ht : t1 = t0
            · subst ht
              by_cases hp : p1 = p0
              · subst hp
                have hba : ∀ o : Obj, Below wz.heap.size wz (wz.alloc o) := fun o => (Below.refl _ _).alloc (Nat.le_refl _) o
                go_wp2_with fail
                refine (modesJoin_any sa ss.length sc ss _ (hrs.below (hba _)) (by omega) (by omega)).mono ?_
                rintro e w8 ⟨v8, rfl, hown8, hb8⟩
                have x1 : w8.cell? ⟨wz.heap.size, 1, none⟩ = some (.int .i64 i1) := (hb8.cell (p := ⟨wz.heap.size, 1, none⟩) (by simp)).trans (by rw [World.cell?_alloc_at _ _ _ _ rfl]; rfl)
                have hb8' : Below wz.heap.size wz w8 := (hba _).trans (hb8.mono (by simp))
                have hs8 := hb8'.size
                have hM8 : MapB w8 (ws.heap.size + 1) L := by rw [← hs1]; exact hM.below hb8'
                have hsl8 : SlR w8 v8 (joinS ss) := own_slr hown8
                have hr38 : w8.heap[w.heap.size]? = some (.cells #[.int .i64 0, .int .i64 0, .int .i64 0] 40 (0, 0)) := (hb8'.block _ (by omega)).trans hr3z
                obtain ⟨v9, hlk, hl1, hl2⟩ := hM8.look i1 (by omega) (by omega) true
                rw [if_pos rfl] at hlk
                have hB8 : Below w1.heap.size w1 w8 := hBz.trans (hb8'.mono (by omega))
                cases hlo : lookL L i1 with
                | none =>
                  rw [hlo] at hlk
                  obtain rfl := hl1 hlo
                  obtain ⟨w9, hst, hM9, hg9, hs9⟩ := hM8.store i1 (by omega) (by omega) hsl8 (.inl hlo)
                  rw [if_pos hlo] at hM9
                  simp only [Option.isSome_none] at hlk
                  go_wp2_with fail
                  go_roundg (k - (j + 1))
                  case rel =>
                    refine ⟨j + 1, L ++ [(i1, joinS ss)], by omega, by go_num, below_grown2 hB8 (by omega) (by omega) hg9, by omega, by rw [hs1]; exact hM9, Lib.hid ?_, Lib.hid ?_⟩
                    · rw [← hC.out, hd, collGo_new hlo]
                    · intro x hx
                      rcases List.mem_append.1 hx with hx | hx
                      · exact hby.out x hx
                      · simp at hx; subst hx; exact hbyte
                  case measure => omega
                | some x =>
                  rw [hlo] at hlk
                  have hsx := hl2 x hlo
                  have hxb := hby.out _ (lookL_mem hlo)
                  simp only [Option.isSome_some] at hlk
                  have HEQ := Lib.hid (bytesEqual_any v9 v8 x (joinS ss) w8 hsx hsl8 hxb hbyte)
                  by_cases hx : x = joinS ss
                  · have hdx : decide (x = joinS ss) = true := by simp [hx]
                    rw [hdx] at HEQ
                    subst hx
                    obtain ⟨w9, hst, hM9, hg9, hs9⟩ := hM8.store i1 (by omega) (by omega) hsl8 (.inr hlo)
                    rw [if_neg (by rw [hlo]; exact fun h => nomatch h)] at hM9
                    go_wp2_with (go_at_call 34; refine HEQ.out.mono ?_; rintro e w5 ⟨rfl, rfl⟩)
                    go_roundg (k - (j + 1))
                    case rel =>
                      refine ⟨j + 1, L, by omega, by go_num, below_grown2 hB8 (by omega) (by omega) hg9, by omega, by rw [hs1]; exact hM9, Lib.hid ?_, hby⟩
                      rw [← hC.out, hd, collGo_same hlo]
                    case measure => omega
                  · have hdx : decide (x = joinS ss) = false := by simp [hx]
                    rw [hdx] at HEQ
                    go_wp2_with (first
                      | (go_at_call 34; refine HEQ.out.mono ?_; rintro e w5 ⟨rfl, rfl⟩)
                      | (refine wpList_hd rfl (.tmp 3) (.tmp 74) rfl w.heap.size 0 0 0 0 0 0 rfl rfl hr38 ?_))
                    refine bodyPost_ret (res25 _ _ w.heap.size (.map none) (.int .i64 0) (.int .i64 0) (.int .i64 0) (.int .i64 34) rfl rfl rfl (setRow_heap _ _ _ _ _ _ hr38)) rfl ?_
                    exact HBAD.out _ hb8' (by rw [← hC.out, hd]; exact collGo_other hlo hx)
              · have hp' : (p1 == p0) = false := by simp [hp]
                go_wp2_with (refine wpList_hd rfl (.tmp 3) (.tmp 55) rfl w.heap.size 0 0 0 0 0 0 rfl rfl (hr3a _) ?_)
                refine bodyPost_ret (res25 _ _ w.heap.size (.map none) (.int .i64 0) (.int .i64 0) (.int .i64 0) (.int .i64 34) rfl rfl rfl (setRow_heap _ _ _ _ _ _ (hr3a _))) rfl ?_
                exact HBAD.out _ ((Below.refl _ _).alloc (Nat.le_refl _) _) (by rw [← hC.out, hd]; exact collGo_bad (.inr hp))
            · have ht' : (t1 == t0) = false := by simp [ht]
              go_wp2_with (refine wpList_hd rfl (.tmp 3) (.tmp 55) rfl w.heap.size 0 0 0 0 0 0 rfl rfl (hr3a _) ?_)
              refine bodyPost_ret (res25 _ _ w.heap.size (.map none) (.int .i64 0) (.int .i64 0) (.int .i64 0) (.int .i64 34) rfl rfl rfl (setRow_heap _ _ _ _ _ _ (hr3a _))) rfl ?_
              exact HBAD.out _ ((Below.refl _ _).alloc (Nat.le_refl _) _) (by rw [← hC.out, hd]; exact collGo_bad (.inl ht))
          · obtain rfl : j = k := by omega
            have z0 := cell_of_blk (j := 0) hr1z _ rfl
            have z1 := cell_of_blk (j := 1) hr1z _ rfl
            have z2 := cell_of_blk (j := 2) hr1z _ rfl
            have f0 := froz_of_blk hr3z 0
            have f1 := froz_of_blk hr3z 1
            have f2 := froz_of_blk hr3z 2
            have x0 := cell_of_blk (j := 0) hr3z _ rfl
            have x1 := cell_of_blk (j := 1) hr3z _ rfl
            have x2 := cell_of_blk (j := 2) hr3z _ rfl
            have hnb : ¬ ws.heap.size = w.heap.size := by omega
            have hnb2 : ¬ w.heap.size = ws.heap.size := by omega
            go_wp2_with fail
            go_region
            go_wp2_with fail
            refine bodyPost_ret (res25 _ _ w.heap.size (.map (some (ws.heap.size + 1))) (.int .i64 i0) (.int .i64 t0) (.int .i64 p0) (.int .i64 0) rfl rfl rfl (set3_heap hr3z _ _ _)) rfl ?_
            have hsm : collGo t0 p0 ms [] = some L := by rw [← hC.out, drop_all (by rw [HL.out]; exact Nat.le_refl _)]; rfl
            have hcf : collF ms = (0, L, (i0, t0, p0)) := by rw [HCF.out, hsm]; rfl
            refine ⟨?_, _, i0, t0, p0, 0, rfl, ?_, ?_, fun _ => ⟨_, rfl, ?_⟩⟩
            · exact ((((hb1.trans (hBz.mono (by omega))).setCell (Nat.le_refl _) _).setCell (Nat.le_refl _) _).setCell (Nat.le_refl _) _).drew
            · rw [hcf]
            · rw [hcf]
            · rw [hcf]
              rw [hs1] at hM
              refine hM.chg hr3z (fun k hk => ?_)
              show ((((wz.setCell _ _).setCell _ _).setCell _ _)).heap[k]? = _
              rw [heap_setCell_other _ _ _ _ hk, heap_setCell_other _ _ _ _ hk, heap_setCell_other _ _ _ _ hk]

end Go.Proofs.Ytifgpjhodajccaa
