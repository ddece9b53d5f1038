/-
  The walk of Decode of package code128. Condition: at most 2^40 modules.
-/
import Derived.Test.YtofedeokliljkaaPlainG
import Derived.Deep.RegionWith
import Derived.Deep.Cut
import Derived.Deep.CutRange
import Derived.Deep.DeepCutAuto
namespace Go.Proofs.Ytofedeokliljkaa
open Go.RowKit Go.Maps

theorem own_rd3 {w : World} {base e n : Nat} {v : Value} {xs : List Value} (h : w.ownsRow base e 1 v n xs) : ∃ a cap, v = .slice a n cap ∧ Rd w a n xs ∧ n ≤ cap ∧ cap ≤ 9223372036854775807 := by
  obtain ⟨a, cap, e, hr⟩ := own_rd h
  refine ⟨a, cap, e, hr, ?_⟩
  rcases h.2 with ⟨e2, h0⟩ | ⟨g, cap', cur, e2, _, _, h1, h2, _⟩
  · rw [e] at e2; cases e2; omega
  · rw [e] at e2; cases e2; unfold maxLen at h2; omega

theorem RetL.open3 {xs : List Int} {w w' : World} {e : Ending} (h : RetL xs w e w') : ∃ a cap, e = .returned (.slice a xs.length cap) ∧ RdI w' a xs.length xs ∧ xs.length ≤ cap ∧ cap ≤ 9223372036854775807 ∧ Below w.heap.size w w' := by
  obtain ⟨v, rfl, hown, hb⟩ := h
  obtain ⟨a, cap, rfl, hr, h1, h2⟩ := own_rd3 hown
  exact ⟨a, cap, rfl, hr, h1, h2, hb⟩

theorem widths_length (bs : List Bool) : (widths bs).length ≤ bs.length := by
  unfold widths
  refine Nat.le_trans (runF_length _ _) ?_
  unfold core
  simp; omega

theorem list6 {xs : List Int} (h : xs.length = 6) : ∃ y0 y1 y2 y3 y4 y5, xs = [y0, y1, y2, y3, y4, y5] := by
  match xs, h with
  | [y0, y1, y2, y3, y4, y5], _ => exact ⟨y0, y1, y2, y3, y4, y5, rfl⟩

theorem rd6 {w : World} {b o : Nat} {y0 y1 y2 y3 y4 y5 : Int} (h : RdI w (some ⟨b, o, none⟩) 6 [y0, y1, y2, y3, y4, y5]) :
    w.cell? ⟨b, o, none⟩ = some (.int .i64 y0) ∧ w.cell? ⟨b, o + 1, none⟩ = some (.int .i64 y1) ∧ w.cell? ⟨b, o + 2, none⟩ = some (.int .i64 y2) ∧ w.cell? ⟨b, o + 3, none⟩ = some (.int .i64 y3) ∧ w.cell? ⟨b, o + 4, none⟩ = some (.int .i64 y4) ∧ w.cell? ⟨b, o + 5, none⟩ = some (.int .i64 y5) := by
  have hc : ∀ k, k < 6 → w.cell? ⟨b, o + k, none⟩ = some (([y0, y1, y2, y3, y4, y5].map (Value.int .i64)).getD k undef) := fun k hk => by
    obtain ⟨b', o', e, h1⟩ := h.cell k hk
    cases e; exact h1
  exact ⟨hc 0 (by omega), hc 1 (by omega), hc 2 (by omega), hc 3 (by omega), hc 4 (by omega), hc 5 (by omega)⟩

theorem widL_small : ∀ k, k < 106 → (widL k).all (fun x => decide (1 ≤ x) && decide (x ≤ 4)) = true := by decide +kernel

theorem widL_wf (k : Nat) (hk : k < 106) : ∀ x ∈ widL k, (Lit.int .i64 x).wf = true := by
  intro x hx
  have := List.all_eq_true.1 (widL_small k hk) x hx
  simp at this
  exact WalkArith.wf_i64 (by omega)

theorem own_mono {w : World} {B B' e s n : Nat} {v : Value} {xs : List Value} (h : w.ownsRow B e s v n xs) (hb : B' ≤ B) : w.ownsRow B' e s v n xs := by
  obtain ⟨h1, h2⟩ := h
  refine ⟨h1, ?_⟩
  rcases h2 with h2 | ⟨g, cap, cur, e1, e2, e3⟩
  · exact .inl h2
  · exact .inr ⟨g, cap, cur, e1, by omega, e3⟩

theorem runF_bnd : ∀ (bs : List Bool) (c : Nat), ∀ x ∈ runF c bs, 1 ≤ x ∧ x ≤ c + bs.length
  | [], _, x, h => by simp [runF] at h
  | [_], c, x, h => by simp [runF] at h; subst h; simp; omega
  | a :: b :: r, c, x, h => by
    unfold runF at h
    split at h
    · have := runF_bnd (b :: r) (c + 1) x h
      simp at this ⊢; omega
    · simp only [List.mem_cons] at h
      rcases h with rfl | h
      · simp; omega
      · have := runF_bnd (b :: r) 0 x h
        simp at this ⊢; omega

theorem widths_bnd (bs : List Bool) : ∀ x ∈ widths bs, 1 ≤ x ∧ x ≤ bs.length := by
  intro x hx
  have := runF_bnd _ _ x hx
  have hl : (core bs).length ≤ bs.length := by unfold core; simp; omega
  omega

theorem look52 {w : World} {b : Nat} {T : List Int → Option Int} (h : MapF Try.prog 52 w b (encW T)) {xs : List Int} (hl : xs.length = 6) (hx : ∀ x ∈ xs, (Lit.int .i64 x).wf = true) :
    (Instr.lookup 51 (.map (some b)) (.agg (xs.map (Value.int .i64)).toArray) true).run Try.prog w = .ok (.tuple #[.int .i64 ((T xs).getD 0), .bool (T xs).isSome]) w := by
  obtain ⟨l, hl⟩ := key52 xs hl hx
  have := h.look law52 Try.underlying51 (zero3 w) hl true
  rw [this, encW_at]
  cases T xs <;> simp

theorem decL_none {q : Nat} {ws acc : List Int} (h : findA (ws.take 6) = none) : decL (q + 1) ws acc = none := decG_none h
theorem decL_some {q : Nat} {ws acc : List Int} {v : Int} (h : findA (ws.take 6) = some v) : decL (q + 1) ws acc = decL q (ws.drop 6) (acc ++ [v]) := decG_some h

theorem rd_drew {w : World} {a : Option Addr} {n : Nat} {xs : List Value} (h : Rd w a n xs) : Rd w.drew a n xs := ⟨h.len, h.le, h.cell⟩

set_option maxRecDepth 100000 in
set_option maxHeartbeats 4000000 in
theorem decode_any (a : Option Addr) (n cap : Nat) (bs : List Bool) (w : World) (h : RdB w a n bs) (hn : n ≤ 1099511627776) :
    Calls Try.prog 20 #[.slice a n cap] w (RetI (decF bs).1 (decF bs).2 w) := by
  have HM := Lib.hid (margins_any a n cap bs w h)
  have HW := Lib.hid (widths_any a n cap bs w h hn)
  have hwl := widths_length bs
  have HBND := Lib.hid (widths_bnd bs)
  have hE : decF bs = if (marg bs).1 = bs.length then ([], 5) else if (marg bs).1 < 10 ∨ (marg bs).2 < 10 then ([], 9)
    else if (widths bs).length < 19 ∨ ((widths bs).length - 7) % 6 ≠ 0 then ([], 7)
    else if (widths bs).drop ((widths bs).length - 7) ≠ widL 106 then ([], 20)
    else match decL (((widths bs).length - 7) / 6) (widths bs) [] with
      | none => ([], 18)
      | some vs => charsF (vs ++ [106]) := rfl
  rw [h.length] at hE hwl HBND
  generalize marg bs = M at *
  generalize widths bs = ws at *
  obtain ⟨ml, mr⟩ := M
  simp only at hE
  have HE := Lib.hid hE; clear hE h
  by_cases h1 : ml = n
  · have he := HE.out
    rw [if_pos h1] at he
    rw [he]
    have hd1 : ((ml : Int) == (n : Int)) = true := by simp; omega
    clear he HE
    have H1 := Lib.hid h1; clear h1
    go_enter Try.func20, Try.ntmps20
    go_wp2_with fail
    refine HM.out.mono ?_
    rintro e w' ⟨rfl, rfl⟩
    go_wp2
    go_ret2
    exact retI_nil _ _ _ (Below.refl _ _)
  have hd1 : ((ml : Int) == (n : Int)) = false := by simp; omega
  by_cases h2 : ml < 10 ∨ mr < 10
  · have he := HE.out
    rw [if_neg h1, if_pos h2] at he
    rw [he]
    clear he HE
    have H2 := Lib.hid h2; clear h2
    by_cases h3 : ml < 10
    · have hd2 : decide ((ml : Int) < 10) = true := by simp; omega
      go_enter Try.func20, Try.ntmps20
      go_wp2_with fail
      refine HM.out.mono ?_
      rintro e w' ⟨rfl, rfl⟩
      go_wp2
      go_ret2
      exact retI_nil _ _ _ (Below.refl _ _)
    · have hd2 : decide ((ml : Int) < 10) = false := by simp; omega
      have hd3 : decide ((mr : Int) < 10) = true := by have := H2.out; simp; omega
      go_enter Try.func20, Try.ntmps20
      go_wp2_with fail
      refine HM.out.mono ?_
      rintro e w' ⟨rfl, rfl⟩
      go_wp2
      go_ret2
      exact retI_nil _ _ _ (Below.refl _ _)
  have hd2 : decide ((ml : Int) < 10) = false := by simp; omega
  have hd3 : decide ((mr : Int) < 10) = false := by simp; omega
  have he := HE.out
  rw [if_neg h1, if_neg h2] at he
  have HE2 := Lib.hid he
  clear he HE h1 h2
  go_enter Try.func20, Try.ntmps20
  go_wp2_with fail
  refine HM.out.mono ?_
  rintro e w' ⟨rfl, rfl⟩
  go_wp2_with fail
  refine HW.out.mono ?_
  rintro e w2 hret
  obtain ⟨wa, wc, rfl, hws, hwc, hwc2, hB2⟩ := hret.open3
  clear hret HM HW
  have HWS := Lib.hid hws; clear hws
  by_cases h4 : ws.length < 19 ∨ (ws.length - 7) % 6 ≠ 0
  · have he := HE2.out
    rw [if_pos h4] at he
    have HE3 := Lib.hid he
    clear he HE2
    have H4 := Lib.hid h4; clear h4
    by_cases h5 : ws.length < 19
    · have hd4 : decide ((ws.length : Int) - 7 < 12) = true := by simp; omega
      go_wp2
      go_ret2
      rw [HE3.out]
      exact retI_nil _ _ _ hB2
    · have hd4 : decide ((ws.length : Int) - 7 < 12) = false := by simp; omega
      have hd5 : ((((ws.length : Int) - 7) % 6) != 0) = true := by have := H4.out; simp; omega
      go_wp2
      go_ret2
      rw [HE3.out]
      exact retI_nil _ _ _ hB2
  have hl19 : 19 ≤ ws.length := by omega
  obtain ⟨q, hq⟩ : ∃ q, ws.length = 6 * q + 7 := ⟨(ws.length - 7) / 6, by omega⟩
  have hd4 : decide ((ws.length : Int) - 7 < 12) = false := by simp; omega
  have hd5 : ((((ws.length : Int) - 7) % 6) != 0) = false := by simp; omega
  have he := HE2.out
  rw [if_neg h4] at he
  have e7 : ws.length - 7 = 6 * q := by omega
  rw [e7, show 6 * q / 6 = q by omega] at he
  have HE3 := Lib.hid he
  have hq2 : 2 ≤ q := by omega
  have hqb : q ≤ 200000000000 := by omega
  have hq3 : 6 * q + 7 ≤ 1099511627776 := by omega
  have hcapq : 6 * q + 7 ≤ wc := by omega
  have HQ := Lib.hid hq
  clear he HE2 h4 e7
  have hws := HWS.out
  rw [hq] at hws
  obtain ⟨wb, wo, rfl⟩ : ∃ wb wo, wa = some ⟨wb, wo, none⟩ := by
    obtain ⟨b, o, e, _⟩ := hws.cell 0 (by omega)
    exact ⟨b, o, e⟩
  have hsub := hws.sub (6 * q) 7 (by omega)
  have hde : (ws.drop (6 * q)).take 7 = ws.drop (6 * q) := List.take_of_length_le (by simp; omega)
  rw [hde] at hsub
  have HSUB := Lib.hid hsub
  have HW7 := Lib.hid hws
  clear hsub hws HWS hde
  rw [hq] at *
  have h67 : ((6 * q + 7 : Nat) : Int) - 7 = ((6 * q : Nat) : Int) := by omega
  rw [h67] at *
  have H67 := Lib.hid h67
  clear h67 hq hwl hl19
  have hm6 : decide (((6 * q : Nat) : Int) < 12) = false := by simp; omega
  have hm7 : ((((6 * q : Nat) : Int) % 6) != 0) = false := by simp
  have hme : 12 ≤ 6 * q := by omega
  obtain ⟨e6, he6⟩ : ∃ e6, 6 * q = e6 := ⟨_, rfl⟩
  rw [he6] at HE3 HSUB HW7 hcapq hq3 hm6 hm7 hme ⊢
  have HE6 := Lib.hid he6
  clear he6 hd4 hd5 H67
  have hws106 : (widL 106).length = 7 := by decide
  have HW106 := Lib.hid (fun W => cw_any 106 106 rfl (by omega) W)
  have hwE : ws.drop e6 = widL 106 ∨ ws.drop e6 ≠ widL 106 := Classical.em _
  generalize widL 106 = stp at *
  go_upto_region 10 with fail
  go_cut [46] (fun s wx => s = .bool (!(decide (ws.drop e6 = stp))) ∧ Below w2.heap.size w2 wx)
  case first =>
    go_region_with (first
      | (go_at_call 29; refine (HW106.out _).mono ?_; rintro e w3 hret; obtain ⟨sa, sc, rfl, hs, hb3⟩ := hret.open; have hsx := Rd.below (rd_drew HSUB.out) hb3; rw [hws106] at hs)
      | (go_at_call 33; refine (equal_any _ _ _ _ _ _ _ _ _ hsx hs).mono ?_; rintro e w4 ⟨rfl, hb4⟩))
    all_goals
      go_wp2_with fail
      go_meet
      exact ⟨rfl, below_tr (below_tr (below_drewN (Below.refl _ w2) 1) hb3) hb4⟩
  case rest =>
    obtain ⟨rfl, hBx⟩ := hcut
    rcases hwE with hwE | hwE
    · have hdE : decide (ws.drop e6 = stp) = true := by simpa using hwE
      have he := HE3.out
      rw [if_neg (by simpa using hwE)] at he
      have HE4 := Lib.hid he
      clear he HE3 hwE
      rw [hdE]
      clear hdE
      have hBw : Below w.heap.size w wc := hB2.trans (hBx.mono hB2.size)
      have hmm := @run_makeMap Try.prog
      have hmap0 : MapF Try.prog 52 (wc.alloc (.map #[] 0)) wc.heap.size (encW (findV 0)) := by
        have : encW (findV 0) = fun _ => none := encW_none
        rw [this]; exact MapF.new wc
      have hb0 : Below wc.heap.size wc (wc.alloc (.map #[] 0)) := (Below.refl _ _).alloc (Nat.le_refl _) _
      obtain ⟨wx, rfl⟩ : ∃ wx : World, wx = wc := ⟨_, rfl⟩
      go_wp2
      go_loopg [48] 106 (fun r x wr => ∃ k : Nat, k + r = 106 ∧ x = .int .i64 k ∧ MapF Try.prog 52 wr wx.heap.size (encW (findV k)) ∧ Below wx.heap.size wx wr)
      case atStart => exact ⟨0, by omega, rfl, hmap0, hb0⟩
      case round =>
        clear hmap0 hb0 hmm
        obtain ⟨k, hk, rfl, hmap, hB⟩ := hrel
        by_cases hlt : k < 106
        · have hdk : decide ((k : Int) < 106) = true := by simp; omega
          have hwl6 : (widL k).length = 6 := by rw [widL_len k (by omega), if_neg (by omega)]
          obtain ⟨y0, y1, y2, y3, y4, y5, hy⟩ := list6 hwl6
          have hwf := widL_wf k hlt
          have hset := encW_set k
          rw [hy] at hwf hset
          obtain ⟨kl, hkl⟩ := key52 [y0, y1, y2, y3, y4, y5] rfl hwf
          have HC := Lib.hid (fun W => cw_any (k : Int) k rfl (by omega) W)
          rw [hy] at HC
          have HSET := Lib.hid hset; have HKL := Lib.hid hkl
          clear hset hkl hwf hy hwl6
          obtain ⟨wo1, rfl⟩ : ∃ wo1 : World, wo1 = wr := ⟨_, rfl⟩
          go_wp2_with fail
          refine (HC.out _).mono ?_
          rintro e w5 hret
          obtain ⟨sa, sc, rfl, hws, hb5⟩ := hret.open
          clear hret
          have hws' : RdI w5 sa 6 [y0, y1, y2, y3, y4, y5] := hws
          obtain ⟨sb, so, e, _⟩ := hws'.cell 0 (by omega)
          subst e
          obtain ⟨c0, c1, c2, c3, c4, c5⟩ := rd6 hws'
          have hmap5 := hmap.below hb5
          have hB5 : Below wx.heap.size wx w5 := below_tr hB hb5
          obtain ⟨w6, hrun6, hmap6, hg6⟩ := hmap5.store law52 Try.underlying51 HKL.out (.int .i64 k)
          have hrun6' : (Instr.mapUpdate 51 (.map (some wx.heap.size)) (.agg #[.int .i64 y0, .int .i64 y1, .int .i64 y2, .int .i64 y3, .int .i64 y4, .int .i64 y5]) (.int .i64 k)).run Try.prog w5 = .ok () w6 := hrun6
          have HM6 := Lib.hid hmap6
          have hB6 : Below wx.heap.size wx w6 := hB5.grown hg6 hB5.size (fun i e => by cases e; exact Nat.le_refl _)
          have harr := arrayAt6
          clear hrun6 hmap6 hg6 hmap5 hB5 hws hws' hmap hB
          simp only [List.length_cons, List.length_nil, Nat.zero_add, Nat.reduceAdd]
          go_wp2
          go_roundg (106 - (k + 1))
          case rel => exact ⟨k + 1, by omega, by go_num, by rw [← HSET.out]; exact HM6.out, hB6⟩
          case measure => omega
        · have hk6 : k = 106 := by omega
          subst hk6
          obtain ⟨wm, rfl⟩ : ∃ wm : World, wm = wr := ⟨_, rfl⟩
          go_wp2_with fail
          go_loopg [10, 11] q (fun r v x wr => ∃ (k : Nat) (acc : List Int), k + r = q ∧ x = .int .i64 ((6 * k : Nat) : Int) ∧ wr.ownsRow wm.heap.size 3 1 v acc.length (acc.map (Value.int .i64)) ∧ acc.length ≤ k ∧ MapF Try.prog 52 wr wx.heap.size (encW (findV 106)) ∧ Below wm.heap.size wm wr ∧ Hid (decL r (ws.drop (6 * k)) acc = decL q ws []))
          case atStart => exact ⟨0, [], by omega, rfl, World.ownsRow_nil _ _ _ _, Nat.le_refl _, hmap, Below.refl _ _, rfl⟩
          case round =>
            obtain ⟨k, acc, hk2, rfl, hown, hal, hmap2, hB2', hD⟩ := hrel
            by_cases hkq : k < q
            · obtain ⟨r', rfl⟩ : ∃ r', gk = r' + 1 := ⟨gk - 1, by omega⟩
              have hrd6 := (((HW7.out.below hBx).below hB).below hB2').sub (6 * k) 6 (by have := HE6.out; omega)
              have hwl6 : ((ws.drop (6 * k)).take 6).length = 6 := by
                have := HE6.out; have := HW7.out.length; simp; omega
              obtain ⟨y0, y1, y2, y3, y4, y5, hy⟩ := list6 hwl6
              have hwf : ∀ x ∈ (ws.drop (6 * k)).take 6, (Lit.int .i64 x).wf = true := fun x hx => by
                have := HBND.out x (List.mem_of_mem_drop (List.mem_of_mem_take hx))
                exact WalkArith.wf_i64 (by omega)
              have lk := look52 hmap2 hwl6 hwf
              rw [hy] at lk hrd6
              have lk' : (Instr.lookup 51 (.map (some wx.heap.size)) (.agg #[.int .i64 y0, .int .i64 y1, .int .i64 y2, .int .i64 y3, .int .i64 y4, .int .i64 y5]) true).run Try.prog wr = .ok (.tuple #[.int .i64 ((findA [y0, y1, y2, y3, y4, y5]).getD 0), .bool (findA [y0, y1, y2, y3, y4, y5]).isSome]) wr := lk
              obtain ⟨c0, c1, c2, c3, c4, c5⟩ := rd6 hrd6
              have hlt6 : 6 * k + 6 ≤ e6 := by have := HE6.out; omega
              have hnext : 6 * (k + 1) = 6 * k + 6 := by omega
              have HNX := Lib.hid hnext
              have HY := Lib.hid hy
              have harr := arrayAt6
              clear lk hwf hwl6 hrd6 hy hnext
              cases hfv : findA [y0, y1, y2, y3, y4, y5] with
              | none =>
                rw [hfv] at lk'
                simp only [Option.getD_none, Option.isSome_none] at lk'
                have hdn : decL q ws [] = none := by rw [← hD.out]; exact decL_none (by rw [HY.out]; exact hfv)
                have HDN := Lib.hid hdn
                clear hfv hdn hD
                generalize 6 * k = k6 at *
                have hd6 : decide ((k6 : Int) < (e6 : Int)) = true := by simp; omega
                go_wp2
                go_ret2
                rw [HE4.out, HDN.out]
                exact retI_nil _ _ _ (hBw.trans ((hB.mono hBw.size).trans (hB2'.mono (Nat.le_trans hBw.size hB.size))))
              | some v =>
                rw [hfv] at lk'
                simp only [Option.getD_some, Option.isSome_some] at lk'
                have hdn : decL r' (ws.drop (6 * (k + 1))) (acc ++ [v]) = decL q ws [] := by
                  rw [← hD.out, decL_some (by rw [HY.out]; exact hfv), List.drop_drop, HNX.out]
                have HDN := Lib.hid hdn
                clear hfv hdn hD
                obtain ⟨i3, hi3, hz3a, hz3b, hz3c⟩ := info_parts info3
                have hnx : ((6 * k : Nat) : Int) + 6 = ((6 * (k + 1) : Nat) : Int) := by omega
                have HNX2 := Lib.hid hnx
                clear hnx HNX
                obtain ⟨k7, hk7⟩ : ∃ k7, 6 * (k + 1) = k7 := ⟨_, rfl⟩
                rw [hk7] at HNX2
                have HK7 := Lib.hid hk7
                clear hk7
                generalize 6 * k = k6 at *
                have hd6 : decide ((k6 : Int) < (e6 : Int)) = true := by simp; omega
                go_wp2_with (at_builtin; refine wpList_append_own _ rfl _ _ 22 rfl wm.heap.size 3 i3 (.int .i64 0) 1 8 Try.underlying22 hi3 hz3a hz3b hz3c rfl (by decide) _ _ _ rfl (hown.alloc _) ⟨wr.heap.size, 0, none⟩ 1 1 [.int .i64 v] rfl rfl (cell_one_new _ _ _) (by simp [Value.oneCell']) ?c3 ?c4 ?c5 ?_)
                case c3 => unfold maxLen; omega
                case c4 => omega
                case c5 => have := hB2'.size; simp; omega
                intro v' w7 hown' hgrow _
                have hB3 := below_app hB2' hB2'.size hown hgrow
                have hmap3 : MapF Try.prog 52 w7 wx.heap.size (encW (findV 106)) := hmap2.kept ((hgrow.block _ (by have := hmap2.lt; simp; omega) (fun e => own_not_map hown hmap2 e.symm)).trans (Below.heap_alloc _ _ _ hmap2.lt))
                clear hgrow lk' c0 c1 c2 c3 c4 c5
                go_wp2
                go_roundg r'
                case rel => exact ⟨k + 1, acc ++ [v], by omega, by rw [HK7.out, ← HNX2.out], own_congr hown' (by simp) (by simp), by simp; omega, hmap3, hB3, HDN⟩
                case measure => omega
            · have hgk : gk = 0 := by omega
              subst hgk
              have hdn : decL q ws [] = some acc := by rw [← hD.out]; rfl
              have he := HE4.out
              rw [hdn] at he
              have HE5 := Lib.hid he
              clear he hdn hD HE4
              have hke : 6 * k = e6 := by have := HE6.out; omega
              have hak : acc.length + 1 ≤ 1099511627776 := by omega
              rw [hke]
              clear hke
              have hd6 : decide ((e6 : Int) < (e6 : Int)) = false := by simp
              obtain ⟨i3, hi3, hz3a, hz3b, hz3c⟩ := info_parts info3
              go_wp2_with (at_builtin; refine wpList_append_own _ rfl _ _ 22 rfl wm.heap.size 3 i3 (.int .i64 0) 1 8 Try.underlying22 hi3 hz3a hz3b hz3c rfl (by decide) _ _ _ rfl (hown.alloc _) ⟨wr.heap.size, 0, none⟩ 1 1 [.int .i64 106] rfl rfl (cell_one_new _ _ _) (by simp [Value.oneCell']) ?c3 ?c4 ?c5 ?_)
              case c3 => unfold maxLen; omega
              case c4 => omega
              case c5 => have := hB2'.size; simp; omega
              intro v' w7 hown' hgrow _
              have hB3 := below_app hB2' hB2'.size hown hgrow
              have hBw7 : Below w.heap.size w w7 := hBw.trans ((hB.mono hBw.size).trans (hB3.mono (Nat.le_trans hBw.size hB.size)))
              obtain ⟨va, vc, rfl, hrd, hvc1, hvc2⟩ := own_rd3 (xs := (acc ++ [106]).map (Value.int .i64)) (own_congr hown' rfl (by simp))
              clear hgrow hown hown'
              go_wp2_with fail
              refine (chars_any va (acc.length + 1) vc (acc ++ [106]) _ hrd (by omega) hvc1 hvc2).mono ?_
              rintro e w8 ⟨vv, rfl, hown8, hb8⟩
              go_wp2
              go_ret2
              rw [HE5.out]
              exact ⟨vv, rfl, own_mono hown8 hBw7.size, below_tr hBw7 hb8⟩
    · have hdE : decide (ws.drop e6 = stp) = false := by simpa using hwE
      have he := HE3.out
      rw [if_pos hwE] at he
      have HE4 := Lib.hid he
      clear he HE3 hwE
      rw [hdE]
      clear hdE
      go_wp2
      go_ret2
      rw [HE4.out]
      exact retI_nil _ _ _ (hB2.trans (hBx.mono hB2.size))

end Go.Proofs.Ytofedeokliljkaa
