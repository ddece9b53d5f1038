/-
  The walk of Encode of the reference of package code128. Condition: at most 2^40 characters.
-/
import Derived.Test.YtofedeokliljkaaWalkRh
import Derived.Test.YtofedeokliljkaaWalkZa
import Derived.Test.YtofedeokliljkaaPlainP
import Derived.Lib.AppendZerosOnto
namespace Go.Proofs.Ytofedeokliljkaa
open Go.RowKit

/-- 'append(s, make([]bool, 10)...)' on a row of the call's own. -/
theorem append_ten (w : World) (ty : TypeId) (B g n cap : Nat) (xs : List Value) (h : w.ownsRow B 4 1 (.slice (some ⟨g, 0, none⟩) n cap) n xs) (hn : n ≤ 1000000) (hB : B ≤ w.heap.size) :
    ∃ v' w', (Builtin.append_ #[32, 3] ty #[.slice (some ⟨g, 0, none⟩) n cap, .int .i64 10]).run Try.prog w = .ok v' w' ∧ w'.ownsRow B 4 1 v' (n + 10) (xs ++ List.replicate 10 (.bool false)) ∧ w.grownBy w' (some g) := by
  obtain ⟨i4, hi4, hz4a, hz4b, hz4c⟩ := info_parts info4
  obtain ⟨hl, hr⟩ := h
  rcases hr with ⟨hr, _⟩ | ⟨g', cap', cur, e, hBg, hg, hnc, hcm, hcs, htake⟩
  · cases hr
  cases e
  have hzc : Builtin.zeroCells (Value.bool false).cells 10 = (List.replicate 10 (Value.bool false)).toArray := by kernel_rfl
  have hL1 : (List.replicate 10 (Value.bool false)).length = 10 := List.length_replicate
  have hL2 : ∀ u ∈ List.replicate 10 (Value.bool false), u.oneCell' = true := by intro u hu; rw [List.eq_of_mem_replicate hu]; rfl
  generalize List.replicate 10 (Value.bool false) = L at *
  by_cases hroom : n + 10 ≤ cap
  · have hst := run_storeCells_at Try.prog g n 4 L 0 cur w hg (by omega) hL2
    simp only [Nat.add_zero] at hst
    refine ⟨.slice (some ⟨g, 0, none⟩) (n + 10) cap, w.setRow g (cur.toList.take n ++ L ++ cur.toList.drop (n + L.length)).toArray, ?_, ?_, ?_⟩
    · have hw : IntKind.i64.wrap (10 : Int) = 10 := by decide
      simp [Builtin.append_, run_underlying Try.underlying32, run_underlying Try.underlying3, sizeOf, typeInfo, zeroValue, hi4, hz4a, hz4b, hz4c, asInt, asIntOf, hw, hroom, hzc, Addr.add_lit, hst]
    · refine ⟨by rw [List.length_append]; omega, .inr ⟨g, cap, _, rfl, hBg, setRow_heap w g cur _ 4 _ hg, hroom, hcm, ?_, ?_⟩⟩
      · simp at hcs ⊢; omega
      · simp only [Nat.mul_one] at htake hl ⊢
        rw [htake]
        have : n + 10 = (xs ++ L).length := by rw [List.length_append]; omega
        rw [this]
        exact List.take_left
    · exact ⟨rfl, rfl, rfl, by simp, fun k _ hk => setRow_other w g k _ (fun e => hk (by rw [e]))⟩
  · have hold : (Builtin.firstCells i4.size n (.slice (some ⟨g, 0, none⟩) n cap)).run Try.prog w.drew = .ok xs.toArray w.drew := by
      rw [hz4b]
      refine run_firstCells_some (P := Try.prog) w.drew 1 n ⟨g, 0, none⟩ n cap xs hl ?_
      intro j u hj
      have hc : w.ownsRow B 4 1 (.slice (some ⟨g, 0, none⟩) n cap) n xs := ⟨hl, .inr ⟨g, cap, cur, rfl, hBg, hg, hnc, hcm, hcs, htake⟩⟩
      have := hc.cells (g := g) rfl j u hj
      simpa using this
    have hr := Lib.run_append_grow_zeros (P := Try.prog) w 32 3 ty 4 i4 (.bool false) .i64 .i64 Try.underlying32 Try.underlying3 hi4 hz4a (some ⟨g, 0, none⟩) n cap xs hold 10 (by omega) (by rw [hz4b]; omega) (by omega) (by omega) (by rw [hz4c]; omega) (growslice_fits (by omega) (by rw [hz4c]; omega))
    rw [hzc] at hr
    refine ⟨_, _, hr, ⟨by rw [List.length_append]; omega, .inr ⟨w.heap.size, _, _, rfl, hB, World.alloc_heap_new w.drew _, grownCap_ge _ _ _ _, grownCap_le_maxLen _ _ _ _ (by unfold maxLen; omega), ?_, ?_⟩⟩, ⟨rfl, rfl, rfl, by simp, fun k hk _ => Below.heap_alloc w.drew _ k hk⟩⟩
    · have hge := grownCap_ge w (n + 10) cap 4
      simp only [Array.size_append, List.size_toArray, size_zeroCells, Value.cells, hL1] at hl ⊢
      simp at hl ⊢
      omega
    · simp only [Array.toList_append, List.append_assoc, Nat.mul_one] at hl ⊢
      rw [← List.append_assoc]
      have : n + 10 = (xs ++ L).length := by rw [List.length_append]; omega
      rw [this]
      exact List.take_left

theorem own_apart {w : World} {B B' e e' s s' n n' : Nat} {v v' : Value} {xs xs' : List Value} (h : w.ownsRow B e s v n xs) (h' : w.ownsRow B' e' s' v' n' xs') (hne : e ≠ e') : v.ownBlock = none ∨ v.ownBlock ≠ v'.ownBlock := by
  rcases h.2 with ⟨rfl, _⟩ | ⟨g, cap, cur, rfl, _, hg, _⟩
  · exact .inl rfl
  · right
    rcases h'.2 with ⟨rfl, _⟩ | ⟨g', _, _, rfl, _, hg', _⟩
    · simp [Value.ownBlock]
    · intro e1
      have e2 : g = g' := by simpa [Value.ownBlock] using e1
      subst e2
      rw [hg] at hg'
      cases hg'
      exact hne rfl

theorem own_cell {w : World} {B pb po n cap j : Nat} {ws : List Int} {q : Int} (h : w.ownsRow B 3 1 (.slice (some ⟨pb, po, none⟩) n cap) n (ws.map (Value.int .i64))) (hn : n = ws.length) (hj : ws[j]? = some q) : w.cell? ⟨pb, po + j, none⟩ = some (.int .i64 q) := by
  obtain ⟨_, _, e1, hrd⟩ := own_rd h
  cases e1
  have hjl := (List.getElem?_eq_some_iff.1 hj).1
  obtain ⟨b, o, q', e, hc, hd⟩ := (show RdI w _ n ws from hrd).at j (by omega)
  cases e
  have := getElem?_of_drop hd
  rw [this] at hj
  cases hj
  exact hc

theorem widL_mods (z : Nat) (h : z ≤ 106) : (modsI 0 (widL z)).length ≤ 13 ∧ (widL z).length ≤ 7 ∧ ∀ x ∈ widL z, 1 ≤ x ∧ x ≤ 4 := by
  have key : ∀ z, z < 107 → (decide ((modsI 0 (widL z)).length ≤ 13) && decide ((widL z).length ≤ 7) && (widL z).all (fun x => decide (1 ≤ x) && decide (x ≤ 4))) = true := by decide +kernel
  have := key z (by omega)
  simp only [Bool.and_eq_true, decide_eq_true_eq, List.all_eq_true, and_assoc] at this
  exact this

set_option maxRecDepth 100000 in
set_option maxHeartbeats 8000000 in
theorem refEncode_any (a : Option Addr) (n cap : Nat) (cs : List Int) (w : World) (h : RdI w a n cs) (hn : n ≤ 1099511627776) :
    Calls Try.prog 18 #[.slice a n cap] w (RetB (encodeF cs).1 (encodeF cs).2 w) := by
  have HV := Lib.hid (refValues_any a n cap cs w h hn)
  have hmem := values_mem cs
  have hlen := values_length cs
  have he := encode_ref cs
  generalize valuesF cs = V at *
  obtain ⟨vs, c⟩ := V
  simp only at hmem hlen he
  have HE := Lib.hid he; have HM := Lib.hid hmem; clear he hmem h
  go_enter Try.func18, Try.ntmps18
  go_wp2_with fail
  refine HV.out.mono ?_
  rintro e w1 hret
  obtain ⟨va, vc, rfl, hvs, hB1⟩ := hret.open
  clear hret HV
  by_cases hc : c = 0
  · subst hc
    have he := HE.out
    rw [if_neg (by simp)] at he
    have HVS := Lib.hid hvs
    clear hvs
    by_cases hbig : 65536 < 11 * (vs.length : Int) + 22
    · rw [if_pos hbig] at he
      have HE2 := Lib.hid he; clear he HE
      have hdl : decide (65536 < 11 * (vs.length : Int) + 22) = true := by simpa using hbig
      clear hbig
      go_wp2
      go_ret2
      rw [HE2.out]
      exact retB_nil2 _ _ _ hB1
    rw [if_neg hbig] at he
    have HE2 := Lib.hid he; clear he HE
    have hdl : decide (65536 < 11 * (vs.length : Int) + 22) = false := by simpa using hbig
    obtain ⟨i4, hi4, hz4a, hz4b, hz4c⟩ := info_parts info4
    have hmk : ∀ w, (Instr.makeSlice 32 (.int .i64 10) (.int .i64 10)).run Try.prog w = .ok (.slice (some ⟨w.heap.size, 0, none⟩) 10 10) (w.alloc (.cells (List.replicate 10 (Value.bool false)).toArray 4)) := fun _ => by kernel_rfl
    have hB1s := hB1.size
    have hown0 : (w1.alloc (.cells (List.replicate 10 (Value.bool false)).toArray 4)).ownsRow w1.heap.size 4 1 (.slice (some ⟨w1.heap.size, 0, none⟩) 10 10) 10 (List.replicate 10 (Value.bool false)) := own_new w1 (List.replicate 10 (Value.bool false)) 10 (Nat.le_refl _) (by simp) (by unfold maxLen; omega)
    have hB0 : Below w1.heap.size w1 (w1.alloc (.cells (List.replicate 10 (Value.bool false)).toArray 4)) := (Below.refl _ _).alloc (Nat.le_refl _) _
    have HO := Lib.hid (And.intro hown0 hB0)
    clear hown0 hB0 hbig
    go_wp2_with fail
    go_loopg [6, 7] vs.length (fun r v x wr => ∃ (k : Nat) (acc : List Bool), k + r = vs.length ∧ x = .int .i64 k ∧ wr.ownsRow w1.heap.size 4 1 v acc.length (acc.map Value.bool) ∧ Below w1.heap.size w1 wr ∧ acc.length ≤ 10 + 13 * k ∧ Hid (acc ++ rowM (vs.drop k) = List.replicate 10 false ++ rowM vs))
    case atStart => exact ⟨0, List.replicate 10 false, by omega, rfl, own_congr HO.out.1 (by simp) (by simp), HO.out.2, by simp, rfl⟩
    case round =>
      clear HO
      obtain ⟨k, acc, hk, rfl, hown, hBr, hal, hA⟩ := hrel
      by_cases hlt : k < vs.length
      · obtain ⟨b, off, z, rfl, hcell, hd⟩ := (HVS.out.below hBr).at k hlt
        have ha := hA.out
        rw [hd, rowM] at ha
        have hz := HM.out z (List.mem_of_getElem? (getElem?_of_drop hd))
        obtain ⟨z, rfl⟩ := Int.eq_ofNat_of_zero_le hz.1
        rw [Int.toNat_natCast] at ha
        have hz2 : z ≤ 106 := by omega
        have HA := Lib.hid ha; clear ha hd hA
        obtain ⟨hwm, hw7, hwx⟩ := widL_mods z hz2
        have HC := Lib.hid (fun W => refPattern_any (z : Int) W)
        have hpf : patF (z : Int) = (widL z, 0) := by unfold patF; rw [if_neg (by omega), Int.toNat_natCast]
        rw [hpf] at HC
        generalize widL z = ws at *
        have HWX := Lib.hid hwx
        clear hz hpf hwx
        obtain ⟨wo, rfl⟩ : ∃ wo : World, wo = wr := ⟨_, rfl⟩
        go_wp2_with fail
        refine (HC.out _).mono ?_
        rintro e w2 hret
        obtain ⟨pv, rfl, hpv, hb2⟩ := hret
        clear HC
        have hown2 := own_below hown hb2
        have hBr2 : Below w1.heap.size w1 w2 := below_tr hBr hb2
        have hpv2 := own_base hpv hBr.size
        clear hown hb2 hpv hcell
        obtain ⟨pa, pc, rfl, _⟩ := own_rd hpv2
        go_wp2_with fail
        go_loopg [6, 10] ws.length (fun r v x wr => ∃ (j : Nat) (acc2 : List Bool), j + r = ws.length ∧ x = .int .i64 j ∧ wr.ownsRow w1.heap.size 4 1 v acc2.length (acc2.map Value.bool) ∧ wr.ownsRow w1.heap.size 3 1 (.slice pa ws.length pc) ws.length (ws.map (Value.int .i64)) ∧ Below w1.heap.size w1 wr ∧ Hid (acc2 ++ modsI j (ws.drop j) = acc ++ modsI 0 ws))
        case atStart => exact ⟨0, acc, by omega, rfl, hown2, hpv2, hBr2, rfl⟩
        case round =>
          clear hown2 hpv2 hBr2
          obtain ⟨j, acc2, hj, rfl, hown2, hpv2, hBr2, hA2⟩ := hrel
          by_cases hjl : j < ws.length
          · obtain ⟨_, _, e1, hrd⟩ := own_rd hpv2
            cases e1
            obtain ⟨pb, po, q, rfl, hcell, hd⟩ := (show RdI wr _ ws.length ws from hrd).at j hjl
            have ha2 := hA2.out
            rw [hd, modsI] at ha2
            have hq := HWX.out q (List.mem_of_getElem? (getElem?_of_drop hd))
            have hl2 : acc2.length + q.toNat ≤ acc.length + 13 := by
              have := congrArg List.length ha2
              simp at this; omega
            have HA2 := Lib.hid ha2
            obtain ⟨q, rfl⟩ := Int.eq_ofNat_of_zero_le (show 0 ≤ q by omega)
            rw [Int.toNat_natCast] at hl2
            have hq4 : q ≤ 4 := by omega
            have hpar : ((j : Int) % 2 == 0) = (j % 2 == 0) := by rw [Bool.eq_iff_iff]; simp; omega
            have HPAR := Lib.hid hpar
            have HQJ := Lib.hid (getElem?_of_drop hd)
            clear ha2 hd hA2 hcell hrd hq hpar
            go_wp2_with fail
            go_loopg [6, 11] q (fun r v x wr => ∃ (c : Nat), c + r = q ∧ x = .int .i64 c ∧ wr.ownsRow w1.heap.size 4 1 v (acc2.length + c) (acc2.map Value.bool ++ List.replicate c (.bool (j % 2 == 0))) ∧ wr.ownsRow w1.heap.size 3 1 (.slice (some ⟨pb, po, none⟩) ws.length pc) ws.length (ws.map (Value.int .i64)) ∧ Below w1.heap.size w1 wr)
            case atStart => exact ⟨0, by omega, rfl, own_congr hown2 (by simp) (by simp), hpv2, hBr2⟩
            case round =>
              clear hown2 hpv2 hBr2
              obtain ⟨c, hc, rfl, hown2, hpv2, hBr2⟩ := hrel
              have hcell := own_cell hpv2 rfl HQJ.out
              have hpar := HPAR.out
              by_cases hcq : c < q
              · have hap := own_apart hpv2 hown2 (by decide)
                go_wp2_with (at_builtin; refine wpList_append_own _ rfl _ _ 32 rfl w1.heap.size 4 i4 (.bool false) 1 1 Try.underlying32 hi4 hz4a hz4b hz4c rfl (by decide) _ _ _ rfl (hown2.alloc _) ⟨wr.heap.size, 0, none⟩ 1 1 [.bool (j % 2 == 0)] rfl rfl (cell_one_new _ _ _) (by simp [Value.oneCell']) ?c3 ?c4 ?c5 ?_)
                case c3 => unfold maxLen; omega
                case c4 => omega
                case c5 => have := hBr2.size; simp; omega
                intro v' w7 hown' hgrow _
                have hB3 := below_app hBr2 hBr2.size hown2 hgrow
                have hpv3 := (hpv2.alloc _).kept hgrow hap
                clear hgrow hown2 hpv2
                go_wp2
                go_roundg (q - (c + 1))
                case rel => exact ⟨c + 1, by omega, by go_num, own_congr hown' (by omega) (by simp [List.replicate_succ']), hpv3, hB3⟩
                case measure => omega
              · have hq0 : gk = 0 := by omega
                subst hq0
                obtain rfl : c = q := by omega
                go_wp2
                go_roundg (ws.length - (j + 1))
                case rel => exact ⟨j + 1, acc2 ++ List.replicate c (j % 2 == 0), by omega, by go_num, own_congr hown2 (by simp) (by simp), hpv2, hBr2, by rw [← HA2.out]; simp [Hid]⟩
                case measure => omega
          · have hacc : acc2 = acc ++ modsI 0 ws := by
              have := hA2.out
              rw [drop_all (by omega), modsI, List.append_nil] at this; exact this
            subst hacc
            go_wp2
            go_roundg (vs.length - (k + 1))
            case rel => exact ⟨k + 1, acc ++ modsI 0 ws, by omega, by go_num, hown2, hBr2, by simp; omega, by rw [← HA.out]; simp [Hid]⟩
            case measure => omega
      · have hac : acc = List.replicate 10 false ++ rowM vs := by
          have := hA.out
          rw [drop_all (by omega), rowM, List.append_nil] at this; exact this
        have HAC := Lib.hid hac
        clear hA
        have hlen10 : 10 ≤ acc.length := by rw [hac]; simp
        obtain ⟨oa, oc, rfl, _⟩ := own_rd hown
        have hform : ∃ g, oa = some ⟨g, 0, none⟩ := by
          rcases hown.2 with ⟨_, h0⟩ | ⟨g, _, _, e, _⟩
          · omega
          · cases e; exact ⟨g, rfl⟩
        obtain ⟨g, rfl⟩ := hform
        obtain ⟨v', w', hr, hown', hgrow⟩ := append_ten wr 32 w1.heap.size g acc.length oc _ hown (by omega) hBr.size
        have hB3 := below_grow1 hBr hown (Nat.le_refl _) hBr.size hgrow
        have HR := Lib.hid hr
        have HO := Lib.hid (And.intro hown' hB3)
        clear hr hown' hB3 hgrow hac
        go_wp2_with (at_builtin; refine Lib.wpList_append_run _ rfl _ _ _ _ rfl _ _ rfl rfl _ _ HR.out ?_)
        go_ret2
        rw [HE2.out, ← HAC.out]
        exact ⟨v', rfl, own_base (own_congr HO.out.1 (by simp) (by simp)) hB1s, below_tr hB1 HO.out.2⟩
  · have he := HE.out
    rw [if_pos hc] at he
    have HE2 := Lib.hid he; clear he HE hvs
    have hcd : (c != 0) = true := by simpa using hc
    clear hc
    go_wp2
    go_ret2
    rw [HE2.out]
    exact retB_nil2 _ _ _ hB1

end Go.Proofs.Ytofedeokliljkaa
