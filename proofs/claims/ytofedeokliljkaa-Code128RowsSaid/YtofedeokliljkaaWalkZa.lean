/-
  The walk of Encode of package code128. Condition: at most 2^40 characters.
-/
import Derived.Test.YtofedeokliljkaaPlainF
import Derived.Test.YtofedeokliljkaaOpen
import Derived.Laws.MakeOwn
namespace Go.Proofs.Ytofedeokliljkaa
open Go.RowKit Go.Maps

theorem rd_cells {w : World} {a : Addr} {n : Nat} {xs : List Value} (h : Rd w (some a) n xs) : ∀ j u, xs[j]? = some u → w.cell? (a.add j) = some u := by
  intro j u hj
  have hlt : j < xs.length := (List.getElem?_eq_some_iff.1 hj).1
  obtain ⟨b, off, e, hc⟩ := h.cell j (by rw [← h.len]; exact hlt)
  cases e
  rw [add_none, hc]
  simp [hj]

theorem retB_nil2 (c : Int) (w w' : World) (h : Below w.heap.size w w') : RetB [] c w (.returned (.tuple #[.slice none 0 0, .int .i64 c])) w' := ⟨_, rfl, World.ownsRow_nil _ _ _ _, h⟩

theorem below_grow1 {B B' e s n : Nat} {w wr w1 : World} {v : Value} {xs : List Value} (hB : Below B w wr) (hown : wr.ownsRow B' e s v n xs) (h : B ≤ B') (hs : B ≤ wr.heap.size) (hg : wr.grownBy w1 v.ownBlock) : Below B w w1 := by
  refine hB.grown hg hs ?_
  intro k hk
  rcases hown.2 with ⟨rfl, _⟩ | ⟨g, cap, cur, rfl, hg', _⟩
  · simp [Value.ownBlock] at hk
  · simp [Value.ownBlock] at hk; omega

theorem size4 : (Try.prog.info? 4).map (·.size) = some 1 := by kernel_rfl

theorem one_bools (ms : List Bool) : ∀ v ∈ ms.map Value.bool, v.oneCell' = true := by
  intro v hv
  obtain ⟨b, _, rfl⟩ := List.mem_map.1 hv
  rfl

theorem splice_row (m : List Bool) : splice (List.replicate (m.length + 20) (Value.bool false)) 10 (m.map Value.bool) = (List.replicate 10 false ++ m ++ List.replicate 10 false).map Value.bool := by
  unfold splice
  simp only [List.take_replicate, List.drop_replicate, List.length_map, List.map_append, List.map_replicate, List.append_assoc]
  rw [show min 10 (m.length + 20) = 10 by omega, show m.length + 20 - (10 + m.length) = 10 by omega]

set_option maxRecDepth 100000 in
set_option maxHeartbeats 4000000 in
theorem encode_any (a : Option Addr) (n cap : Nat) (cs : List Int) (w : World) (h : RdI w a n cs) (hn : n ≤ 1099511627776) :
    Calls Try.prog 17 #[.slice a n cap] w (RetB (encodeF cs).1 (encodeF cs).2 w) := by
  have HV := Lib.hid (values_any a n cap cs w h hn)
  have hmem := values_mem cs
  have hlen := values_length cs
  have he : encodeF cs = if (valuesF cs).2 ≠ 0 then ([], (valuesF cs).2) else if (modules (patsF (valuesF cs).1)).2 ≠ 0 then ([], (modules (patsF (valuesF cs).1)).2)
      else if 65536 < (modules (patsF (valuesF cs).1)).1.length + 20 then ([], 4)
      else (List.replicate 10 false ++ (modules (patsF (valuesF cs).1)).1 ++ List.replicate 10 false, 0) := rfl
  generalize valuesF cs = V at *
  obtain ⟨vs, c⟩ := V
  simp only at hmem hlen he
  have HE := Lib.hid he; have HM := Lib.hid hmem; clear he hmem h
  go_enter Try.func17, Try.ntmps17
  go_wp2_with fail
  refine HV.out.mono ?_
  rintro e w1 hret
  obtain ⟨va, vc, rfl, hvs, hB1⟩ := hret.open
  clear hret HV
  by_cases hc : c = 0
  · subst hc
    have he := HE.out
    rw [if_neg (by simp)] at he
    have HE2 := Lib.hid he; clear he HE
    have HVS := Lib.hid hvs
    clear hvs
    obtain ⟨i3, hi3, hz3a, hz3b, hz3c⟩ := info_parts info3
    obtain ⟨i4, hi4, hz4a, hz4b, hz4c⟩ := info_parts info4
    go_wp2
    go_loopg [6, 21] vs.length (fun r v x wr => ∃ (k : Nat) (acc : List Int), k + r = vs.length ∧ x = .int .i64 k ∧ wr.ownsRow w1.heap.size 3 1 v acc.length (acc.map (Value.int .i64)) ∧ Below w1.heap.size w1 wr ∧ Below w.heap.size w wr ∧ acc.length ≤ 7 * k ∧ Hid (acc ++ patsF (vs.drop k) = patsF vs))
    case atStart => exact ⟨0, [], by omega, rfl, World.ownsRow_nil _ _ _ _, Below.refl _ _, hB1, by simp, rfl⟩
    case round =>
      obtain ⟨k, acc, hk, rfl, hown, hBr, hBw, hal, hA⟩ := hrel
      by_cases hlt : k < vs.length
      · obtain ⟨b, off, z, rfl, hcell, hd⟩ := (HVS.out.below hBr).at k hlt
        have ha := hA.out
        rw [hd, patsF] at ha
        have hz := HM.out z (List.mem_of_getElem? (getElem?_of_drop hd))
        obtain ⟨z, rfl⟩ := Int.eq_ofNat_of_zero_le hz.1
        rw [Int.toNat_natCast] at ha
        have hz2 : z ≤ 106 := by omega
        have HA := Lib.hid ha; clear ha hd hA
        have hwl := widL_len z hz2
        have hwl1 : 6 ≤ (widL z).length ∧ (widL z).length ≤ 7 := by rw [hwl]; split <;> omega
        obtain ⟨hwa, hwb⟩ := hwl1
        have HC := Lib.hid (fun W => cw_any (z : Int) z rfl hz2 W)
        generalize widL z = ws at *
        clear hwl hz
        obtain ⟨wo, rfl⟩ : ∃ wo : World, wo = wr := ⟨_, rfl⟩
        go_wp2_with fail
        refine (HC.out _).mono ?_
        rintro e w2 hret
        obtain ⟨sa, sc, rfl, hws, hb2⟩ := hret.open
        clear hret
        have hown2 := own_below hown hb2
        have hBw2 : Below w.heap.size w w2 := hBw.trans (hb2.mono hBw.size)
        have hBr2 : Below w1.heap.size w1 w2 := below_tr hBr hb2
        obtain ⟨sb, so, e, _⟩ := hws.cell 0 (by omega)
        subst e
        clear hown hb2
        go_wp2_with (at_builtin; refine wpList_append_own _ rfl _ _ 22 rfl w1.heap.size 3 i3 (.int .i64 0) 1 8 Try.underlying22 hi3 hz3a hz3b hz3c rfl (by decide) _ _ _ rfl hown2 ⟨sb, so, none⟩ ws.length sc (ws.map (Value.int .i64)) rfl (by simp) (rd_cells hws) (by simp [Value.oneCell']) ?c3 ?c4 ?c5 ?_)
        case c3 => unfold maxLen; omega
        case c4 => omega
        case c5 => exact hBr2.size
        intro v' w3 hown' hgrow _
        go_wp2
        go_roundg (vs.length - (k + 1))
        case rel => exact ⟨k + 1, acc ++ ws, by omega, by go_num, own_congr hown' (by simp) (by simp), below_grow1 hBr2 hown2 (Nat.le_refl _) hBr2.size hgrow, below_grow1 hBw2 hown2 hB1.size hBw2.size hgrow, by simp; omega, by rw [List.append_assoc]; exact HA.out⟩
        case measure => omega
      · have hac : acc = patsF vs := by
          have := hA.out
          rw [drop_all (by omega), patsF, List.append_nil] at this; exact this
        subst hac
        obtain ⟨la, lc, rfl, hrd⟩ := own_rd hown
        have HMO := Lib.hid (modules_any la _ lc _ wr hrd (by omega))
        have hml := modules_length (patsF vs)
        generalize modules (patsF vs) = M at *
        obtain ⟨ms, mc⟩ := M
        simp only at hml
        clear hA hrd hown hal
        obtain ⟨wo, rfl⟩ : ∃ wo : World, wo = wr := ⟨_, rfl⟩
        go_wp2_with fail
        refine HMO.out.mono ?_
        rintro e w4 hret
        obtain ⟨ma, mcap, rfl, hms, hb4⟩ := hret.open
        clear hret HMO
        have hB4 : Below w.heap.size w w4 := hBw.trans (hb4.mono hBw.size)
        clear hb4 hBw hBr
        by_cases hmc : mc = 0
        · subst hmc
          have he := HE2.out
          simp only [ne_eq, not_true_eq_false, if_false] at he
          by_cases hlong : 65536 < ms.length + 20
          · rw [if_pos hlong] at he
            have HE3 := Lib.hid he; clear he HE2
            have hdl : decide (65536 < (ms.length : Int) + 20) = true := by simp; omega
            clear hms
            go_wp2
            go_ret2
            rw [HE3.out]
            exact retB_nil2 _ _ _ hB4
          · rw [if_neg hlong] at he
            have HE3 := Lib.hid he; clear he HE2
            have hdl : decide (65536 < (ms.length : Int) + 20) = false := by simp; omega
            have HMS := Lib.hid hms; clear hms
            obtain ⟨N, hN⟩ : ∃ N : Nat, N = ms.length + 20 := ⟨_, rfl⟩
            have hNi : (ms.length : Int) + 20 = (N : Int) := by omega
            have HNI := Lib.hid hNi
            have HN := Lib.hid hN
            have hN1 : 20 ≤ N := by omega
            have hN2 : N ≤ 65536 := by omega
            clear hN hNi
            go_wp2_with (at_make; refine wpList_make_full _ rfl _ _ 32 rfl w.heap.size 4 i4 (.bool false) 1 Try.underlying32 hi4 hz4a hz4b _ _ _ _ N rfl rfl HNI.out HNI.out (by rw [hz4c]; omega) (by unfold maxLen; omega) hB4.size ?_)
            intro w5 hown5 hgrow5
            obtain ⟨hrow5, _⟩ := own_block hown5
            have hrow5 : w5.heap[w4.heap.size]? = some (.cells (List.replicate N (Value.bool false)).toArray 4 (0, 0)) := by have := made_one (.bool false) N; rw [Nat.mul_one] at this; rw [← this]; exact hrow5
            have hB5 : Below w.heap.size w w5 := hB4.grown hgrow5 hB4.size (fun k e => by cases e)
            have hms5 : RdB w5 ma ms.length ms := HMS.out.below ((Below.refl _ _).grown hgrow5 (Nat.le_refl _) (fun k e => by cases e))
            have HMS5 := Lib.hid hms5
            have HR5 := Lib.hid hrow5
            have hg4 : w.heap.size ≤ w4.heap.size := hB4.size
            clear hown5 hgrow5 hms5 hrow5 HMS hB4
            generalize w4.heap.size = g at *
            go_wp2_with (refine wpList_copy_splice rfl (.tmp 47) (.tmp 48) 32 32 rfl 4 Try.underlying32 size4 _ _ _ _ _ _ rfl rfl g 10 (List.replicate N (Value.bool false)) 4 HR5.out (ms.map Value.bool) ?c1 (fun hp => ⟨rfl, ?c2⟩) ?c3 (one_bools ms) w.heap.size w hB5 hg4 ?_)
            case c1 => rw [List.length_map]; have := HN.out; show _ = min _ _; omega
            case c2 =>
              rw [List.length_map] at hp
              obtain ⟨sb, so, e, _⟩ := HMS5.out.cell 0 hp
              exact ⟨_, e, rd_cells (by rw [← e]; exact HMS5.out)⟩
            case c3 => rw [List.length_map, List.length_replicate]; have := HN.out; omega
            intro w6 hrow6 hB6
            have hfin : w6.ownsRow w.heap.size 4 1 (.slice (some ⟨g, 0, none⟩) N N) N ((List.replicate 10 false ++ ms ++ List.replicate 10 false).map Value.bool) := by
              have h1 := hrow6.out
              have h2 := HN.out
              rw [h2, splice_row] at h1
              rw [h2]
              exact block_own h1 (by simp) hg4 (by unfold maxLen; omega)
            have HFIN := Lib.hid hfin
            clear hfin hrow6
            go_wp2
            go_ret2
            rw [HE3.out]
            refine ⟨_, rfl, own_congr HFIN.out ?_ rfl, hB6⟩
            have := HN.out
            simp; omega
        · have he := HE2.out
          rw [if_pos (by simpa using hmc)] at he
          have hcn : (mc != 0) = true := by simpa using hmc
          have HE3 := Lib.hid he; clear he HE2
          have HC := Lib.hid hmc; clear hmc hms
          go_wp2
          go_ret2
          rw [HE3.out]
          exact retB_nil2 _ _ _ hB4
  · have he := HE.out
    rw [if_pos hc] at he
    have hcn : (c != 0) = true := by simpa using hc
    have HE2 := Lib.hid he; clear he HE
    have HC := Lib.hid hc; clear hc
    go_wp2
    go_ret2
    rw [HE2.out]
    exact retB_nil2 _ _ _ hB1

end Go.Proofs.Ytofedeokliljkaa
