/-
  The walk of Values of the reference of package code128. Condition: at most 2^40 characters.
-/
import Derived.Test.YtofedeokliljkaaPlainO
import Derived.Test.YtofedeokliljkaaWalkRe
import Derived.Test.YtofedeokliljkaaWalkRf
import Derived.Test.YtofedeokliljkaaWalkRg
namespace Go.Proofs.Ytofedeokliljkaa
open Go.RowKit

theorem choice_any (a : Option Addr) (n cap k g m rc s : Nat) (cs : List Int) (r : R6) (w : World) (h : RdI w a n cs) (hk : k < n) (hn : n ≤ 1099511627776) (hm : k < m) (hm2 : m ≤ 1099511627776) (hr : RowCells w g (k * 6) r)
  (b0 : 0 ≤ r.u0 ∧ r.u0 ≤ 2199023255552) (b1 : 0 ≤ r.u1 ∧ r.u1 ≤ 2199023255552) (b2 : 0 ≤ r.u2 ∧ r.u2 ≤ 2199023255552) (hp : r.u2 = r.a2 → cs.getD k 0 ≠ 256 → k + 1 < n) (hc : ∀ c ∈ cs, 0 ≤ c ∧ c ≤ 500) (hs : s < 3) :
    Calls Try.prog 41 #[.slice a n cap, .int .i64 k, .int .i64 s, .slice (some ⟨g, 0, none⟩) m rc] w fun e w' => e = .returned (.int .i64 (choiceF cs k s r)) ∧ Below w.heap.size w w' := by
  have hg : ∀ j, 0 ≤ cs.getD j 0 ∧ cs.getD j 0 ≤ 500 := fun j => by
    rw [List.getD_eq_getElem?_getD]
    cases hj : cs[j]? with
    | none => simp
    | some c => exact hc c (List.mem_of_getElem? hj)
  have h1 := hg k
  have h2 := hg (k + 1)
  match s, hs with
  | 0, _ => exact choice_0 a n cap k g m rc cs r.u0 r.u1 r.u2 r.a0 r.a1 r.a2 w h hk hn hm hm2 hr b1.1 b1.2 b2.1 b2.2
  | 1, _ => exact choice_1 a n cap k g m rc cs r.u0 r.u1 r.u2 r.a0 r.a1 r.a2 w h hk hn hm hm2 hr b0.1 b0.2 b2.1 b2.2
  | 2, _ => exact choice_2 a n cap k g m rc cs r.u0 r.u1 r.u2 r.a0 r.a1 r.a2 w h hk hn hm hm2 hr b0.1 b0.2 b1.1 b1.2 hp (by omega) (by omega) (by omega) (by omega)

theorem check_seq {cs : List Int} (hb : badC cs = false) (hn : cs.length ≤ 5000) : checkF (seqF cs) = (chkL (seqF cs), 0) := by
  have hm := inV_of (seq_mem hb hn)
  have hs := start_range hb hn
  obtain ⟨f, _, he⟩ := seq_parts hb hn
  rw [he] at hm ⊢
  unfold checkF
  simp only
  rw [if_neg (by rw [hm]; simp), if_neg (by omega)]
  rfl

theorem own_base {w : World} {B B' e s n : Nat} {v : Value} {xs : List Value} (h : w.ownsRow B e s v n xs) (hb : B' ≤ B) : w.ownsRow B' e s v n xs := by
  obtain ⟨h1, h2⟩ := h
  refine ⟨h1, ?_⟩
  rcases h2 with h2 | ⟨g, cap, cur, e1, e2, h3⟩
  · exact .inl h2
  · exact .inr ⟨g, cap, cur, e1, Nat.le_trans hb e2, h3⟩

set_option maxRecDepth 100000 in
set_option maxHeartbeats 8000000 in
theorem refValues_any (a : Option Addr) (n cap : Nat) (cs : List Int) (w : World) (h : RdI w a n cs) (hn : n ≤ 1099511627776) :
    Calls Try.prog 23 #[.slice a n cap] w (RetI (valuesF cs).1 (valuesF cs).2 w) := by
  have H := Lib.hid h; have HL := Lib.hid h.length; clear h
  by_cases h0 : n = 0
  · have hv : valuesF cs = ([], 5) := by unfold valuesF; rw [HL.out, if_pos h0]
    rw [hv]
    subst h0
    go_enter Try.func23, Try.ntmps23
    go_wp2
    go_ret2
    exact retI_nil _ _ _ (Below.refl _ _)
  by_cases h1 : 4096 < n
  · have hv : valuesF cs = ([], 4) := by unfold valuesF; rw [HL.out, if_neg h0, if_pos h1]
    rw [hv]
    have h0' : ((n : Int) == 0) = false := by simp; omega
    go_enter Try.func23, Try.ntmps23
    go_wp2
    go_ret2
    exact retI_nil _ _ _ (Below.refl _ _)
  have hv : valuesF cs = if badC cs = true then ([], 6) else (seqF cs ++ [chkL (seqF cs), 106], 0) := by unfold valuesF; rw [HL.out, if_neg h0, if_neg h1]
  have HV := Lib.hid hv; clear hv
  have h0' : ((n : Int) == 0) = false := by simp; omega
  go_enter Try.func23, Try.ntmps23
  go_wp2
  go_loop [4] (fun x => ∃ k : Nat, k ≤ n ∧ x = .int .i64 k ∧ Hid (badC (cs.drop k) = badC cs)) (fun x => n - (intOf x).toNat)
  case atStart => exact ⟨0, by omega, rfl, rfl⟩
  case round =>
    obtain ⟨k, hk, rfl, hB⟩ := hrel
    by_cases hlt : k < n
    · obtain ⟨b, off, c, rfl, hcell, hd⟩ := H.out.at k hlt
      have hs : badC (cs.drop k) = if c < 0 ∨ (127 < c ∧ c < 256) ∨ 259 < c then true else badC (cs.drop (k + 1)) := by rw [hd]; rfl
      have HS := Lib.hid hs; clear hs hd
      have hkn := known_any c w
      rw [known_bad c] at hkn
      by_cases hbd : c < 0 ∨ (127 < c ∧ c < 256) ∨ 259 < c
      · rw [decide_eq_true hbd, Bool.not_true] at hkn
        have HKN := Lib.hid hkn
        have HBD := Lib.hid hbd
        clear hkn hbd
        go_wp2_with fail
        refine HKN.out.mono ?_
        rintro e w' ⟨rfl, rfl⟩
        go_wp2
        go_ret2
        rw [HV.out, if_pos (by rw [← hB.out, HS.out, if_pos HBD.out])]
        exact retI_nil _ _ _ (Below.refl _ _)
      · rw [decide_eq_false hbd, Bool.not_false] at hkn
        have HKN := Lib.hid hkn
        have HBD := Lib.hid hbd
        clear hkn hbd
        go_wp2_with fail
        refine HKN.out.mono ?_
        rintro e w' ⟨rfl, rfl⟩
        go_wp2
        go_round
        case rel => exact ⟨k + 1, by omega, by go_num, by rw [← hB.out, HS.out, if_neg HBD.out]; rfl⟩
        case measure => simp [intOf]; omega
    · have hgood : badC cs = false := by rw [← hB.out, drop_all (by rw [HL.out]; omega)]; rfl
      have hv := HV.out
      rw [if_neg (by rw [hgood]; simp)] at hv
      have HG := Lib.hid hgood; have HV2 := Lib.hid hv
      clear HV hgood hv hB
      have hcm := badC_mem HG.out
      have HCM := Lib.hid hcm; clear hcm
      obtain ⟨g, hG⟩ : ∃ g, w.heap.size = g := ⟨_, rfl⟩
      have HG2 := Lib.hid hG
      have hrows := rows_any a n cap g cs w H.out (by omega) hG
      have HRO := Lib.hid hrows
      clear hrows hG
      go_wp2_with fail
      refine HRO.out.mono ?_
      rintro e w2 ⟨rfl, hrw, hb2⟩
      have HRW := Lib.hid hrw
      have HB2 : Hid (Below w.heap.size w w2) := Lib.hid (by rw [HG2.out]; exact hb2)
      have hst := start_use HG.out (by rw [HL.out]; omega) (by rw [HL.out]; omega)
      obtain ⟨c0, c1, c2, _, _, _⟩ := hrw.row 0 (by omega)
      simp only [Nat.zero_mul, Nat.zero_add] at c0 c1 c2
      generalize (rowAt cs 0).u0 = u0 at *
      generalize (rowAt cs 0).u1 = u1 at *
      generalize (rowAt cs 0).u2 = u2 at *
      have HST := Lib.hid hst
      clear hst hrw hb2 HRO
      go_wp2_with fail
      go_loopw [6, 7] (fun s x wr => Below w2.heap.size w2 wr ∧ ((x = .int .i64 1 ∧ s = .int .i64 0) ∨ (x = .int .i64 2 ∧ s = .int .i64 (if u1 < u0 then 1 else 0)) ∨ (∃ z : Nat, x = .int .i64 3 ∧ s = .int .i64 z ∧ Hid ((z : Int) + 103 = startF (costsF cs)) ∧ z < 3))) (fun _ x _ => (3 - intOf x).toNat)
      case atStart => exact ⟨Below.refl _ _, .inl ⟨rfl, rfl⟩⟩
      case round =>
        obtain ⟨hB1, hrel⟩ := hrel
        have d0 := (hB1.cell (p := ⟨g, 0, none⟩) HRW.out.lt).trans c0
        have d1 := (hB1.cell (p := ⟨g, 1, none⟩) HRW.out.lt).trans c1
        have d2 := (hB1.cell (p := ⟨g, 2, none⟩) HRW.out.lt).trans c2
        rcases hrel with ⟨rfl, rfl⟩ | ⟨rfl, rfl⟩ | ⟨z, rfl, rfl, hz, hz3⟩
        · by_cases hlt : u1 < u0
          · have hd : decide (u1 < u0) = true := by simpa using hlt
            go_wp2_with fail
            go_quiet (fail)
            go_wp2
            go_roundw
            case rel => exact ⟨below_drewN hB1 _, .inr (.inl ⟨rfl, by rw [if_pos hlt]⟩)⟩
            case measure => simp [intOf]
            
          · have hd : decide (u1 < u0) = false := by simpa using hlt
            go_wp2_with fail
            go_quiet (fail)
            go_wp2
            go_roundw
            case rel => exact ⟨below_drewN hB1 _, .inr (.inl ⟨rfl, by rw [if_neg (by omega)]⟩)⟩
            case measure => simp [intOf]
            
        · by_cases hlt0 : u1 < u0
          · rw [if_pos hlt0]
            by_cases hlt : u2 < u1
            · have hd : decide (u2 < u1) = true := by simpa using hlt
              go_wp2_with fail
              go_quiet (fail)
              go_wp2
              go_roundw
              case rel => exact ⟨below_drewN hB1 _, .inr (.inr ⟨2, rfl, rfl, Lib.hid (by rw [HST.out, if_pos hlt0, if_pos hlt]; rfl), by omega⟩)⟩
              case measure => simp [intOf]
              
            · have hd : decide (u2 < u1) = false := by simpa using hlt
              go_wp2_with fail
              go_quiet (fail)
              go_wp2
              go_roundw
              case rel => exact ⟨below_drewN hB1 _, .inr (.inr ⟨1, rfl, rfl, Lib.hid (by rw [HST.out, if_pos hlt0, if_neg (by omega)]; rfl), by omega⟩)⟩
              case measure => simp [intOf]
              
          · rw [if_neg hlt0]
            by_cases hlt : u2 < u0
            · have hd : decide (u2 < u0) = true := by simpa using hlt
              go_wp2_with fail
              go_quiet (fail)
              go_wp2
              go_roundw
              case rel => exact ⟨below_drewN hB1 _, .inr (.inr ⟨2, rfl, rfl, Lib.hid (by rw [HST.out, if_neg (by omega), if_pos hlt]; rfl), by omega⟩)⟩
              case measure => simp [intOf]
              
            · have hd : decide (u2 < u0) = false := by simpa using hlt
              go_wp2_with fail
              go_quiet (fail)
              go_wp2
              go_roundw
              case rel => exact ⟨below_drewN hB1 _, .inr (.inr ⟨0, rfl, rfl, Lib.hid (by rw [HST.out, if_neg (by omega), if_neg (by omega)]; rfl), by omega⟩)⟩
              case measure => simp [intOf]
              
        · clear d0 d1 d2 c0 c1 c2 HST
          obtain ⟨f, hf⟩ : ∃ f : Nat, costsF cs (0 : Nat) ((z : Int) + 2) = some (f : Int) := start_cost HG.out (by rw [HL.out]; omega) (by omega) (by omega)
          have hfb : f ≤ 15000 := start_bound HG.out (by rw [HL.out]; omega) (by omega) (by omega) hf
          have HS : Hid ([(z : Int) + 103] ++ goF cs (costsF cs) f 0 ((z : Int) + 2) = seqF cs) := by
            have e : startF (costsF cs) - 101 = (z : Int) + 2 := by have := hz.out; omega
            have hf' : costsF cs 0 (startF (costsF cs) - 101) = some (f : Int) := by rw [e]; exact hf
            show _ = seqF cs
            unfold seqF
            rw [hf', e, ← hz.out]; rfl
          have HF := Lib.hid hf
          clear hf hz
          go_wp2_with fail
          have hB1s := hB1.size
          have hownA : (wr.alloc (.cells #[.int .i64 (103 + (z : Int))] 3)).ownsRow w2.heap.size 3 1 (.slice (some ⟨wr.heap.size, 0, none⟩) 1 1) 1 [.int .i64 (103 + (z : Int))] := own_new wr [.int .i64 (103 + (z : Int))] 1 hB1s rfl (by unfold maxLen; omega)
          have hBA := hB1.alloc hB1s (.cells #[.int .i64 (103 + (z : Int))] 3)
          go_loopg [6, 8, 9] f (fun f s v x wr => ∃ (k sn : Nat) (pre : List Int), x = .int .i64 k ∧ s = .int .i64 sn ∧ sn < 3 ∧ k ≤ n ∧ wr.ownsRow w2.heap.size 3 1 v pre.length (pre.map (Value.int .i64)) ∧ Below w2.heap.size w2 wr ∧ Hid (costsF cs k ((sn : Int) + 2) = some (f : Int)) ∧ Hid (pre ++ goF cs (costsF cs) f k ((sn : Int) + 2) = seqF cs) ∧ pre.length + f ≤ 20000)
          case atStart => exact ⟨0, z, [103 + (z : Int)], rfl, rfl, hz3, by omega, hownA, hBA, HF, by rw [Int.add_comm 103]; exact HS, by simp; omega⟩
          case round =>
            clear hownA hBA HS HF hB1 hfb f hB1s
            obtain ⟨wz, rfl⟩ : ∃ wz : World, wz = wr := ⟨_, rfl⟩
            obtain ⟨fo, rfl⟩ : ∃ fo : Nat, fo = gk := ⟨_, rfl⟩
            obtain ⟨k, sn, pre, rfl, rfl, hsn, hk, hown, hB, hF, hS, hlen⟩ := hrel
            obtain ⟨i3, hi3, hz3a, hz3b, hz3c⟩ := info_parts info3
            have hBs := hB.size
            by_cases hkn : k < n
            · have hdk : decide ((k : Int) < (n : Int)) = true := by simp; omega
              obtain ⟨f, rfl⟩ : ∃ f, fo = f + 1 := by
                have := (next_ok (cs := cs) (by rw [HL.out]; omega) (badC_ok HG.out) (by rw [HL.out]; exact hkn) (by omega) (by omega) hF.out).1
                exact ⟨fo - 1, by omega⟩
              obtain ⟨b0, b1, b2, hp⟩ := row_bounds (cs := cs) (k := k) (by rw [HL.out]; omega) (by rw [HL.out]; exact hkn)
              rw [HL.out] at hp
              have hch := choice_any a n cap k g (n + 2) (n + 2) sn cs (rowAt cs k) wz (H.out.below (below_tr HB2.out hB)) hkn (by omega) (by omega) (by omega) ((HRW.out.below hB).row k (by omega)) b0 b1 b2 hp HCM.out hsn
              obtain ⟨v, hv⟩ : ∃ v, choiceF cs k sn (rowAt cs k) = v := ⟨_, rfl⟩
              rw [hv] at hch
              have HCV := Lib.hid hv
              have HCH := Lib.hid hch
              clear b0 b1 b2 hp hch hv
              go_wp2_with fail
              refine HCH.out.mono ?_
              rintro e w5 ⟨rfl, hb5⟩
              have hown5 := own_below hown hb5
              have hB5 : Below w2.heap.size w2 w5 := below_tr hB hb5
              have hB5s := hB5.size
              clear hown hB hb5 HCH
              go_wp2_with (at_builtin; refine wpList_append_own _ rfl _ _ 22 rfl w2.heap.size 3 i3 (.int .i64 0) 1 8 Try.underlying22 hi3 hz3a hz3b hz3c rfl (by decide) _ _ _ rfl (hown5.alloc _) ⟨w5.heap.size, 0, none⟩ 1 1 [.int .i64 v] rfl rfl (cell_one_new _ _ _) (by simp [Value.oneCell']) ?c3 ?c4 ?c5 ?_)
              case c3 => unfold maxLen; omega
              case c4 => omega
              case c5 => have := hB5.size; simp; omega
              intro v7 w7 hown7 hgrow _
              have hB7 := below_app hB5 hB5s hown5 hgrow
              have hB7s := hB7.size
              clear hgrow hown5 hB5 hB5s
              obtain ⟨b, off, c, rfl, hcell, hd⟩ := (H.out.below (below_tr HB2.out hB7)).at k hkn
              have hcg : cs.getD k 0 = c := by rw [List.getD_eq_getElem?_getD, getElem?_of_drop hd]; rfl
              have HCG := Lib.hid hcg
              clear hd hcg
              have hown8 : w7.ownsRow w2.heap.size 3 1 v7 (pre ++ [v]).length ((pre ++ [v]).map (Value.int .i64)) := own_congr hown7 (by simp) (by simp)
              clear hown7
              rcases (show sn = 0 ∨ sn = 1 ∨ sn = 2 by omega) with rfl | rfl | rfl
              · skip
                obtain ⟨v', hv', hv0, hv1, hcase⟩ := ref_step0 HG.out (by rw [HL.out]; omega) (by rw [HL.out]; exact hkn) hF.out
                obtain rfl : v' = v := hv'.symm.trans HCV.out
                rw [HCG.out] at hcase
                clear hv' HCV hF
                obtain ⟨dd, hdd⟩ : ∃ dd, dataF c 0 = dd := ⟨_, rfl⟩
                rw [hdd] at hcase
                have HD := Lib.hid (fun W => hdd ▸ data_any c 0 W (by omega) (by omega))
                have HDO := Lib.hid (fun W => data_any c 1 W (by omega) (by omega))
                obtain ⟨do_, hdo⟩ : ∃ dd, dataF c 1 = dd := ⟨_, rfl⟩
                rw [hdo] at hcase HDO
                clear hdd hdo
                rcases hcase with ⟨rfl, f2, rfl, hg, hc2⟩ | ⟨rfl, hne, hg, hc2⟩ | ⟨rfl, hne, hg, hc2⟩ | ⟨rfl, hne, hg, hc2⟩
                · have HS2 : Hid ((pre ++ [98] ++ [do_]) ++ goF cs (costsF cs) f2 (k + 1) 2 = seqF cs) := by
                    refine Lib.hid ?_
                    have h1 := hS.out
                    rw [show ((0 : Nat) : Int) + 2 = 2 from rfl, hg] at h1
                    rw [← h1]; simp
                  have HF2 := Lib.hid hc2
                  clear hS hg hc2
                  go_wp2_with (first | (go_at_call 42; refine (HDO.out _).mono ?_; rintro e w' ⟨rfl, rfl⟩) | (at_builtin; refine wpList_append_own _ rfl _ _ 22 rfl w2.heap.size 3 i3 (.int .i64 0) 1 8 Try.underlying22 hi3 hz3a hz3b hz3c rfl (by decide) _ _ _ rfl (hown8.alloc _) ⟨w7.heap.size, 0, none⟩ 1 1 [.int .i64 do_] rfl rfl (cell_one_new _ _ _) (by simp [Value.oneCell']) ?c3 ?c4 ?c5 ?_))
                  case c3 => unfold maxLen; simp; omega
                  case c4 => simp; omega
                  case c5 => simp; omega
                  intro v9 w9 hown9 hgrow9 _
                  have hB9 := below_app hB7 hB7s hown8 hgrow9
                  have hown10 : w9.ownsRow w2.heap.size 3 1 v9 (pre ++ [98] ++ [do_]).length ((pre ++ [98] ++ [do_]).map (Value.int .i64)) := own_congr hown9 (by simp) (by simp)
                  clear hgrow9 hown9 hown8
                  go_wp2
                  go_roundg f2
                  case rel => exact ⟨k + 1, 0, pre ++ [98] ++ [do_], by go_num, by go_num, by omega, by omega, hown10, hB9, HF2, HS2, by simp; omega⟩
                  case measure => omega
                · have HS2 : Hid ((pre ++ [99]) ++ goF cs (costsF cs) f k 4 = seqF cs) := by
                    refine Lib.hid ?_
                    have h1 := hS.out
                    rw [show ((0 : Nat) : Int) + 2 = 2 from rfl, hg] at h1
                    rw [← h1]; simp
                  have HF2 := Lib.hid hc2
                  have hne' : (((99 : Int)) != dd) = true := by simp; omega
                  clear hS hg hc2
                  go_wp2_with (go_at_call 42; refine (HD.out _).mono ?_; rintro e w' ⟨rfl, rfl⟩)
                  go_roundg f
                  case rel => exact ⟨k, 2, pre ++ [99], by go_num, by go_num, by omega, by omega, hown8, hB7, HF2, HS2, by simp; omega⟩
                  case measure => omega
                · have HS2 : Hid ((pre ++ [100]) ++ goF cs (costsF cs) f k 3 = seqF cs) := by
                    refine Lib.hid ?_
                    have h1 := hS.out
                    rw [show ((0 : Nat) : Int) + 2 = 2 from rfl, hg] at h1
                    rw [← h1]; simp
                  have HF2 := Lib.hid hc2
                  have hne' : (((100 : Int)) != dd) = true := by simp; omega
                  clear hS hg hc2
                  go_wp2_with (go_at_call 42; refine (HD.out _).mono ?_; rintro e w' ⟨rfl, rfl⟩)
                  go_roundg f
                  case rel => exact ⟨k, 1, pre ++ [100], by go_num, by go_num, by omega, by omega, hown8, hB7, HF2, HS2, by simp; omega⟩
                  case measure => omega
                · have HS2 : Hid ((pre ++ [v']) ++ goF cs (costsF cs) f (k + 1) 2 = seqF cs) := by
                    refine Lib.hid ?_
                    have h1 := hS.out
                    rw [show ((0 : Nat) : Int) + 2 = 2 from rfl, hg] at h1
                    rw [← h1]; simp
                  have HF2 := Lib.hid hc2
                  have hne2 : (v' == 98) = false := by simpa using hne
                  have hne' : (v' != v') = false := by simp
                  clear hS hg hc2 hne
                  go_wp2_with (go_at_call 42; refine (HD.out _).mono ?_; rintro e w' ⟨rfl, rfl⟩)
                  all_goals
                    go_roundg f
                    case rel => exact ⟨k + 1, 0, pre ++ [v'], by go_num, by go_num, by omega, by omega, hown8, hB7, HF2, HS2, by simp; omega⟩
                    case measure => omega
              · skip
                obtain ⟨v', hv', hv0, hv1, hcase⟩ := ref_step1 HG.out (by rw [HL.out]; omega) (by rw [HL.out]; exact hkn) hF.out
                obtain rfl : v' = v := hv'.symm.trans HCV.out
                rw [HCG.out] at hcase
                clear hv' HCV hF
                obtain ⟨dd, hdd⟩ : ∃ dd, dataF c 1 = dd := ⟨_, rfl⟩
                rw [hdd] at hcase
                have HD := Lib.hid (fun W => hdd ▸ data_any c 1 W (by omega) (by omega))
                have HDO := Lib.hid (fun W => data_any c 0 W (by omega) (by omega))
                obtain ⟨do_, hdo⟩ : ∃ dd, dataF c 0 = dd := ⟨_, rfl⟩
                rw [hdo] at hcase HDO
                clear hdd hdo
                rcases hcase with ⟨rfl, f2, rfl, hg, hc2⟩ | ⟨rfl, hne, hg, hc2⟩ | ⟨rfl, hne, hg, hc2⟩ | ⟨rfl, hne, hg, hc2⟩
                · have HS2 : Hid ((pre ++ [98] ++ [do_]) ++ goF cs (costsF cs) f2 (k + 1) 3 = seqF cs) := by
                    refine Lib.hid ?_
                    have h1 := hS.out
                    rw [show ((1 : Nat) : Int) + 2 = 3 from rfl, hg] at h1
                    rw [← h1]; simp
                  have HF2 := Lib.hid hc2
                  clear hS hg hc2
                  go_wp2_with (first | (go_at_call 42; refine (HDO.out _).mono ?_; rintro e w' ⟨rfl, rfl⟩) | (at_builtin; refine wpList_append_own _ rfl _ _ 22 rfl w2.heap.size 3 i3 (.int .i64 0) 1 8 Try.underlying22 hi3 hz3a hz3b hz3c rfl (by decide) _ _ _ rfl (hown8.alloc _) ⟨w7.heap.size, 0, none⟩ 1 1 [.int .i64 do_] rfl rfl (cell_one_new _ _ _) (by simp [Value.oneCell']) ?c3 ?c4 ?c5 ?_))
                  case c3 => unfold maxLen; simp; omega
                  case c4 => simp; omega
                  case c5 => simp; omega
                  intro v9 w9 hown9 hgrow9 _
                  have hB9 := below_app hB7 hB7s hown8 hgrow9
                  have hown10 : w9.ownsRow w2.heap.size 3 1 v9 (pre ++ [98] ++ [do_]).length ((pre ++ [98] ++ [do_]).map (Value.int .i64)) := own_congr hown9 (by simp) (by simp)
                  clear hgrow9 hown9 hown8
                  go_wp2
                  go_roundg f2
                  case rel => exact ⟨k + 1, 1, pre ++ [98] ++ [do_], by go_num, by go_num, by omega, by omega, hown10, hB9, HF2, HS2, by simp; omega⟩
                  case measure => omega
                · have HS2 : Hid ((pre ++ [99]) ++ goF cs (costsF cs) f k 4 = seqF cs) := by
                    refine Lib.hid ?_
                    have h1 := hS.out
                    rw [show ((1 : Nat) : Int) + 2 = 3 from rfl, hg] at h1
                    rw [← h1]; simp
                  have HF2 := Lib.hid hc2
                  have hne' : (((99 : Int)) != dd) = true := by simp; omega
                  clear hS hg hc2
                  go_wp2_with (go_at_call 42; refine (HD.out _).mono ?_; rintro e w' ⟨rfl, rfl⟩)
                  go_roundg f
                  case rel => exact ⟨k, 2, pre ++ [99], by go_num, by go_num, by omega, by omega, hown8, hB7, HF2, HS2, by simp; omega⟩
                  case measure => omega
                · have HS2 : Hid ((pre ++ [101]) ++ goF cs (costsF cs) f k 2 = seqF cs) := by
                    refine Lib.hid ?_
                    have h1 := hS.out
                    rw [show ((1 : Nat) : Int) + 2 = 3 from rfl, hg] at h1
                    rw [← h1]; simp
                  have HF2 := Lib.hid hc2
                  have hne' : (((101 : Int)) != dd) = true := by simp; omega
                  clear hS hg hc2
                  go_wp2_with (go_at_call 42; refine (HD.out _).mono ?_; rintro e w' ⟨rfl, rfl⟩)
                  go_roundg f
                  case rel => exact ⟨k, 0, pre ++ [101], by go_num, by go_num, by omega, by omega, hown8, hB7, HF2, HS2, by simp; omega⟩
                  case measure => omega
                · have HS2 : Hid ((pre ++ [v']) ++ goF cs (costsF cs) f (k + 1) 3 = seqF cs) := by
                    refine Lib.hid ?_
                    have h1 := hS.out
                    rw [show ((1 : Nat) : Int) + 2 = 3 from rfl, hg] at h1
                    rw [← h1]; simp
                  have HF2 := Lib.hid hc2
                  have hne2 : (v' == 98) = false := by simpa using hne
                  have hne' : (v' != v') = false := by simp
                  clear hS hg hc2 hne
                  go_wp2_with (go_at_call 42; refine (HD.out _).mono ?_; rintro e w' ⟨rfl, rfl⟩)
                  all_goals
                    go_roundg f
                    case rel => exact ⟨k + 1, 1, pre ++ [v'], by go_num, by go_num, by omega, by omega, hown8, hB7, HF2, HS2, by simp; omega⟩
                    case measure => omega
              · skip
                obtain ⟨v', hv', hv0, hv1, hcase⟩ := ref_step2 HG.out (by rw [HL.out]; omega) (by rw [HL.out]; exact hkn) hF.out
                obtain rfl : v' = v := hv'.symm.trans HCV.out
                skip
                clear hv' HCV hF
                obtain ⟨dd, hdd⟩ : ∃ dd, dataF c 1 = dd := ⟨_, rfl⟩
                have HD := Lib.hid (fun W => hdd ▸ data_any c 1 W (by omega) (by omega))
                clear hdd
                rcases hcase with ⟨rfl, hg, hc2⟩ | ⟨rfl, hg, hc2⟩ | ⟨hle, hk2, hg, hc2⟩ | ⟨rfl, hg, hc2⟩
                · have HS2 : Hid ((pre ++ [100]) ++ goF cs (costsF cs) f (k) 3 = seqF cs) := by
                    refine Lib.hid ?_
                    have h1 := hS.out
                    rw [show ((2 : Nat) : Int) + 2 = 4 from rfl, hg] at h1
                    rw [← h1]; simp
                  have HF2 := Lib.hid hc2
                  clear hS hg hc2
                  go_wp2_with (go_at_call 42; refine (HD.out _).mono ?_; rintro e w' ⟨rfl, rfl⟩)
                  all_goals
                    go_roundg f
                    case rel => exact ⟨k, 1, pre ++ [100], by go_num, by go_num, by omega, by omega, hown8, hB7, HF2, HS2, by simp; omega⟩
                    case measure => omega
                · have HS2 : Hid ((pre ++ [101]) ++ goF cs (costsF cs) f (k) 2 = seqF cs) := by
                    refine Lib.hid ?_
                    have h1 := hS.out
                    rw [show ((2 : Nat) : Int) + 2 = 4 from rfl, hg] at h1
                    rw [← h1]; simp
                  have HF2 := Lib.hid hc2
                  clear hS hg hc2
                  go_wp2_with (go_at_call 42; refine (HD.out _).mono ?_; rintro e w' ⟨rfl, rfl⟩)
                  all_goals
                    go_roundg f
                    case rel => exact ⟨k, 0, pre ++ [101], by go_num, by go_num, by omega, by omega, hown8, hB7, HF2, HS2, by simp; omega⟩
                    case measure => omega
                · have HS2 : Hid ((pre ++ [v']) ++ goF cs (costsF cs) f (k + 2) 4 = seqF cs) := by
                    refine Lib.hid ?_
                    have h1 := hS.out
                    rw [show ((2 : Nat) : Int) + 2 = 4 from rfl, hg] at h1
                    rw [← h1]; simp
                  have HF2 := Lib.hid hc2
                  clear hS hg hc2
                  rw [HL.out] at hk2
                  go_wp2_with (go_at_call 42; refine (HD.out _).mono ?_; rintro e w' ⟨rfl, rfl⟩)
                  all_goals
                    go_roundg f
                    case rel => exact ⟨k + 2, 2, pre ++ [v'], by go_num, by go_num, by omega, by omega, hown8, hB7, HF2, HS2, by simp; omega⟩
                    case measure => omega
                · have HS2 : Hid ((pre ++ [102]) ++ goF cs (costsF cs) f (k + 1) 4 = seqF cs) := by
                    refine Lib.hid ?_
                    have h1 := hS.out
                    rw [show ((2 : Nat) : Int) + 2 = 4 from rfl, hg] at h1
                    rw [← h1]; simp
                  have HF2 := Lib.hid hc2
                  clear hS hg hc2
                  go_wp2_with (go_at_call 42; refine (HD.out _).mono ?_; rintro e w' ⟨rfl, rfl⟩)
                  all_goals
                    go_roundg f
                    case rel => exact ⟨k + 1, 2, pre ++ [102], by go_num, by go_num, by omega, by omega, hown8, hB7, HF2, HS2, by simp; omega⟩
                    case measure => omega
            · have hdk : decide ((k : Int) < (n : Int)) = false := by simp; omega
              have hf0 : fo = 0 := end_zero HG.out (by rw [HL.out]; omega) (by rw [HL.out]; omega) (by rw [HL.out]; omega) (by omega) (by omega) hF.out
              subst hf0
              have hpre : pre = seqF cs := by rw [← hS.out]; unfold goF; rw [List.append_nil]
              have HPR := Lib.hid hpre
              clear hpre hF hS
              obtain ⟨va, vc, rfl, hrd⟩ := own_rd hown
              have hck := refCheck_any va _ vc pre wz hrd (by omega)
              rw [show checkF pre = (chkL pre, 0) by rw [HPR.out]; exact check_seq HG.out (by rw [HL.out]; omega)] at hck
              have HCK := Lib.hid hck
              clear hck hrd
              go_wp2_with fail
              refine HCK.out.mono ?_
              rintro e w' ⟨rfl, rfl⟩
              go_wp2_with (at_builtin; refine wpList_append_own _ rfl _ _ 22 rfl w2.heap.size 3 i3 (.int .i64 0) 1 8 Try.underlying22 hi3 hz3a hz3b hz3c rfl (by decide) _ _ _ rfl (hown.alloc _) ⟨wz.heap.size, 0, none⟩ 2 2 [.int .i64 (chkL pre), .int .i64 106] rfl rfl (cells_new _ _) (by simp [Value.oneCell']) ?c3 ?c4 ?c5 ?_)
              case c3 => unfold maxLen; omega
              case c4 => omega
              case c5 => have := hB.size; simp; omega
              intro v' w7 hown' hgrow _
              have hB3 := below_app hB hBs hown hgrow
              clear hgrow hown
              go_wp2
              go_ret2
              rw [HV2.out, ← HPR.out]
              exact ⟨v', rfl, own_base (own_congr hown' (by simp) (by simp)) HB2.out.size, below_tr HB2.out hB3⟩

end Go.Proofs.Ytofedeokliljkaa
