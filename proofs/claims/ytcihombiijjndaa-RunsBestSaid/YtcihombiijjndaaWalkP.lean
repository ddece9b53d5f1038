/-
  The walk of the statement RunsBest: it returns true. No condition.
-/
import Derived.Test.YtcihombiijjndaaWalkN
import Derived.Test.YtcihombiijjndaaPlainB
import Derived.IntWalk
namespace Go.Proofs.Ytcihombiijjndaa
open Go.RowKit

theorem prod_bd {x y : Int} {X Y : Int} (hx0 : 0 ≤ x) (hx : x ≤ X) (hy0 : 0 ≤ y) (hy : y ≤ Y) : 0 ≤ x * y ∧ x * y ≤ X * Y :=
  ⟨Int.mul_nonneg hx0 hy0, Int.mul_le_mul hx hy hy0 (by omega)⟩

theorem drop_getD' {zs r : List Int} {i : Nat} {z : Int} (h : zs.drop i = z :: r) : zs.getD i 0 = z := by
  rw [List.getD_eq_getElem?_getD, getElem?_of_drop h]; rfl

set_option maxRecDepth 100000 in
set_option maxHeartbeats 4000000 in
theorem runsBest_walk (a : Option Addr) (n cap : Nat) (zs : List Int) (T k : Int) (w : World) (h : RdI w a n zs) :
    Calls Try.prog 6 #[.slice a n cap, .int .i64 T, .int .i64 k] w fun e w' => e = .returned (.bool true) ∧ Below w.heap.size w w' := by
  by_cases hn : 60 < n
  · go_enter Try.func6, Try.ntmps6
    go_wp2_with fail
    refine (alive_any _).mono ?_
    rintro e w1 ⟨rfl, hb⟩
    go_wp2
    go_ret
    exact ⟨rfl, hb⟩
  have hd0 : decide (60 < n) = false := by simp; omega
  by_cases hT : 500 < T
  · have hd1 : decide (500 < T) = true := by simpa using hT
    go_enter Try.func6, Try.ntmps6
    go_wp2_with fail
    refine (alive_any _).mono ?_
    rintro e w1 ⟨rfl, hb⟩
    go_wp2
    go_ret
    exact ⟨rfl, hb⟩
  have hd1 : decide (500 < T) = false := by simpa using hT
  by_cases hk1 : k < 1
  · have hd2 : decide (k < 1) = true := by simpa using hk1
    go_enter Try.func6, Try.ntmps6
    go_wp2_with fail
    refine (alive_any _).mono ?_
    rintro e w1 ⟨rfl, hb⟩
    go_wp2
    go_ret
    exact ⟨rfl, hb⟩
  have hd2 : decide (k < 1) = false := by simpa using hk1
  by_cases hk2 : 100 < k
  · have hd3 : decide (100 < k) = true := by simpa using hk2
    go_enter Try.func6, Try.ntmps6
    go_wp2_with fail
    refine (alive_any _).mono ?_
    rintro e w1 ⟨rfl, hb⟩
    go_wp2
    go_ret
    exact ⟨rfl, hb⟩
  have hd3 : decide (100 < k) = false := by simpa using hk2
  obtain ⟨i3, hi3, hz3a, hz3b, hz3c⟩ := info_parts info3
  have hlen := h.length
  have hq := quantize_any a n cap zs T w h
  by_cases hbad : n = 0 ∨ inR zs = false ∨ T < n
  · have hm : (quantize zs T).1 = [] ∧ (quantize zs T).2 ≠ 0 := by
      unfold quantize
      by_cases h0 : n = 0
      · rw [if_pos (by omega)]; simp
      · rw [if_neg (by omega), if_neg (by omega), if_pos (by rw [hlen]; rcases hbad with h | h | h; exact absurd h h0; exact .inl h; exact .inr (.inl h))]; simp
    obtain ⟨hm1, hm2⟩ := hm
    rw [hm1] at hq
    generalize (quantize zs T).2 = c at *
    have hc : (c != 0) = true := by rw [bne_iff_ne]; exact hm2
    clear hm1 hm2 hlen hbad
    go_enter Try.func6, Try.ntmps6
    go_wp2_with fail
    refine hq.mono ?_
    rintro e w1 hret
    obtain ⟨ra, rc, rfl, rR, b1⟩ := hret.open
    rw [show ([] : List Int).length = 0 from rfl]
    go_wp2_with fail
    refine (alive_any _).mono ?_
    rintro e w2 ⟨rfl, b2⟩
    go_wp2
    go_ret
    exact ⟨rfl, below_tr b1 b2⟩
  have hr : inR zs = true := by
    cases hr : inR zs
    · exact absurd (.inr (.inl hr)) hbad
    · rfl
  have h0 : 0 < zs.length := by omega
  have hS0 := sumI_nonneg zs hr
  have hS1 := sumI_le zs hr
  have hmem := inR_mem hr
  obtain ⟨M, hM⟩ : ∃ M : Nat, T = (n : Int) + (M : Int) := ⟨(T - n).toNat, by omega⟩
  have hqe : quantize zs T = (grF (sumI zs) T zs M (List.replicate n 1), 0) := by
    unfold quantize
    rw [if_neg (by omega), if_neg (by omega), if_neg (by rw [hr, hlen]; simp; omega)]
    unfold quantR
    have e := quant_eq (sumI zs) T zs h0 (T - zs.length).toNat
    rw [e, hlen, show (T - (n : Int)).toNat = M by omega]
  obtain ⟨R, hR⟩ : ∃ R, R = grF (sumI zs) T zs M (List.replicate n 1) := ⟨_, rfl⟩
  have hRl : R.length = n := by rw [hR, grF_length]; simp
  have hRp : ∀ o ∈ R, 1 ≤ o := by rw [hR]; exact grF_pos _ _ _ h0 _ _ (by simp [hlen]) (fun o ho => by have := (List.mem_replicate.1 ho).2; omega)
  have hRs : sumI R = T := by rw [hR, grF_sum _ _ _ h0 _ _ (by simp [hlen]), sumI_rep]; omega
  have hRn : Near (sumI zs) T zs R := by
    rw [hR]
    refine near_all _ _ _ hS0 h0 _ _ (by simp [hlen]) ?_
    intro i j hi hj h1
    exfalso
    have : (List.replicate n (1 : Int)).getD i 0 = 1 := by simp [show i < n by omega]
    omega
  have hRle : ∀ o ∈ R, o ≤ T := fun o ho => by have := (sumI_ge R hRp).2 o ho; omega
  have hag : quantize (R.map (fun z => k * z)) T = (R, 0) := by
    have hin : inR (R.map (fun z => k * z)) = true := by
      refine inR_of _ (fun z hz => ?_)
      obtain ⟨o, ho, rfl⟩ := List.mem_map.1 hz
      have h1 := hRp o ho
      have h2 := hRle o ho
      have h3 := prod_bd (x := k) (y := o) (X := 100) (Y := 500) (by omega) (by omega) (by omega) (by omega)
      have h4 : 1 * 1 ≤ k * o := Int.mul_le_mul (by omega) h1 (by omega) (by omega)
      omega
    unfold quantize
    rw [if_neg (by rw [List.length_map, hRl]; omega), if_neg (by rw [List.length_map, hRl]; omega), if_neg (by rw [hin, List.length_map, hRl]; simp; omega)]
    unfold quantR
    have e := quant_eq (sumI (R.map (fun z => k * z))) T (R.map (fun z => k * z)) (by simp; omega) (T - (R.map (fun z => k * z)).length).toNat
    rw [e, sumI_mul, hRs]
    congr 1
    rw [List.length_map, hRl, show (T - (n : Int)).toNat = M by omega]
    refine again_step k T R (by omega) (by omega) (by omega) M _ (by simp [hRl]) ?_ ?_
    · intro j hj
      have : (List.replicate n (1 : Int)).getD j 0 = 1 := by simp [show j < n by omega]
      rw [this]
      exact hRp _ (by simp [hj])
    · rw [sumI_rep, hRs]; omega
  rw [hqe, ← hR] at hq
  generalize hSS : sumI zs = S at *
  have HS := Lib.hid hSS; have HRP := Lib.hid hRp; have HRLE := Lib.hid hRle; have HRL := Lib.hid hRl; have HRS := Lib.hid hRs; have HRN := Lib.hid hRn; have HAG := Lib.hid hag
  have HMEM := Lib.hid hmem; have HLEN := Lib.hid hlen
  have H := Lib.hid h
  have hTn : (n : Int) ≤ T := by omega
  have hn0 : 0 < n := by omega
  have hS2 : S ≤ 3932160 := by omega
  clear hSS hRp hRle hRl hRs hRn hag hmem hlen hqe hR hM hr hS1 h hbad h0
  have hneq : (((R.length : Int)) != (n : Int)) = false := by rw [HRL.out]; simp
  go_enter Try.func6, Try.ntmps6
  go_wp2_with fail
  refine hq.mono ?_
  rintro e w1 hret
  obtain ⟨ra, rc, rfl, rR, b1⟩ := hret.open
  have RR := Lib.hid rR; clear rR
  go_wp2
  go_loopw [9, 10, 55] (fun s u x wr => ∃ (i : Nat) (ts us : Int), i ≤ n ∧ x = .int .i64 i ∧ s = .int .i64 ts ∧ u = .int .i64 us ∧ 0 ≤ ts ∧ ts ≤ 65536 * i ∧ 0 ≤ us ∧ us ≤ 65536 * i ∧ Below w1.heap.size w1 wr ∧ Hid (ts + sumI (zs.drop i) = S) ∧ Hid (us + sumI (R.drop i) = T)) (fun _ _ x _ => n - (intOf x).toNat)
  case atStart => exact ⟨0, 0, 0, Nat.zero_le _, rfl, rfl, rfl, by omega, by omega, by omega, by omega, Below.refl _ _, by rw [List.drop_zero, HS.out]; exact Int.zero_add _, by rw [List.drop_zero, HRS.out]; exact Int.zero_add _⟩
  case round =>
    obtain ⟨i, ts, us, hi, rfl, rfl, rfl, ht0, ht1, hu0, hu1, hB, hts, hus⟩ := hrel
    have hBw : Below w.heap.size w wr := below_tr b1 hB
    by_cases hlt : i < n
    · obtain ⟨b, off, z, rfl, hc1, hd1⟩ := (H.out.below hBw).at i hlt
      obtain ⟨b', off', z1, rfl, hc2, hd2⟩ := (RR.out.below hB).at i (by rw [HRL.out]; exact hlt)
      have hz := HMEM.out z (List.mem_of_mem_drop (by rw [hd1]; simp))
      have hz1m := HRP.out z1 (List.mem_of_mem_drop (by rw [hd2]; simp))
      have hz2m := HRLE.out z1 (List.mem_of_mem_drop (by rw [hd2]; simp))
      have h1 := hts.out; have h2 := hus.out
      rw [hd1, sumI] at h1
      rw [hd2, sumI] at h2
      have H1 := Lib.hid h1; have H2 := Lib.hid h2
      have hRlt : i < R.length := by rw [HRL.out]; exact hlt
      clear h1 h2 hd1 hd2 hts hus
      obtain ⟨hz3, hz4⟩ := hz
      go_wp2
      go_roundw
      case rel => exact ⟨i + 1, ts + z, us + z1, by omega, by go_num, rfl, rfl, by omega, by omega, by omega, by omega, hB, by rw [← H1.out, Int.add_assoc]; rfl, by rw [← H2.out, Int.add_assoc]; rfl⟩
      case measure => simp [intOf]; omega
    · have e1 : S = ts := by
        have := hts.out
        rw [drop_all (by rw [HLEN.out]; omega)] at this
        simp [sumI] at this; exact this.symm
      have e2 : T = us := by
        have := hus.out
        rw [drop_all (by rw [HRL.out]; omega)] at this
        simp [sumI] at this; exact this.symm
      subst e1; subst e2
      clear hts hus
      obtain ⟨wo, rfl⟩ : ∃ wo : World, wo = wr := ⟨_, rfl⟩
      go_wp2
      go_loopw [78] (fun x wr => ∃ (i : Nat), i ≤ n ∧ x = .int .i64 i ∧ Below w1.heap.size w1 wr) (fun x _ => n - (intOf x).toNat)
      case atStart => exact ⟨0, Nat.zero_le _, rfl, hB⟩
      case round =>
        obtain ⟨i, hi, rfl, hB1⟩ := hrel
        by_cases hin : i < n
        · obtain ⟨wi, rfl⟩ : ∃ wi : World, wi = wr := ⟨_, rfl⟩
          go_wp2
          go_loopw [83] (fun x wr => ∃ (j : Nat), j ≤ n ∧ x = .int .i64 j ∧ Below w1.heap.size w1 wr) (fun x _ => n - (intOf x).toNat)
          case atStart => exact ⟨0, Nat.zero_le _, rfl, hB1⟩
          case round =>
            obtain ⟨j, hj, rfl, hB2⟩ := hrel
            have hBw2 : Below w.heap.size w wr := below_tr b1 hB2
            by_cases hjn : j < n
            · obtain ⟨b, off, zi, e0, hc1, hd1⟩ := (H.out.below hBw2).at i hin
              obtain ⟨b', off', zj, e0', hc2, hd2⟩ := (H.out.below hBw2).at j hjn
              rw [e0] at e0'; cases e0'; subst e0
              obtain ⟨c, coff, oi, e1, hc3, hd3⟩ := (RR.out.below hB2).at i (by rw [HRL.out]; exact hin)
              obtain ⟨c', coff', oj, e1', hc4, hd4⟩ := (RR.out.below hB2).at j (by rw [HRL.out]; exact hjn)
              rw [e1] at e1'; cases e1'; subst e1
              have hzi := HMEM.out zi (List.mem_of_mem_drop (by rw [hd1]; simp))
              have hzj := HMEM.out zj (List.mem_of_mem_drop (by rw [hd2]; simp))
              have hoi := HRP.out oi (List.mem_of_mem_drop (by rw [hd3]; simp))
              have hoi2 := HRLE.out oi (List.mem_of_mem_drop (by rw [hd3]; simp))
              have hoj := HRP.out oj (List.mem_of_mem_drop (by rw [hd4]; simp))
              have hoj2 := HRLE.out oj (List.mem_of_mem_drop (by rw [hd4]; simp))
              have hnear := HRN.out i j (by rw [HLEN.out]; exact hin) (by rw [HLEN.out]; exact hjn)
              rw [drop_getD' hd1, drop_getD' hd2, drop_getD' hd3, drop_getD' hd4] at hnear
              have hiR : i < R.length := by rw [HRL.out]; exact hin
              have hjR : j < R.length := by rw [HRL.out]; exact hjn
              have HNE := Lib.hid hnear
              clear hd1 hd2 hd3 hd4 hnear
              obtain ⟨hzi1, hzi2⟩ := hzi
              obtain ⟨hzj1, hzj2⟩ := hzj
              by_cases ho1 : 1 < oi
              · have hlt := HNE.out ho1
                have hd : decide (1 < oi) = true := by simpa using ho1
                have hdd : decide (S * oj - T * zj < S * (oi - 1) - T * zi) = false := by simpa using hlt
                obtain ⟨p1, p2⟩ := prod_bd (x := S) (y := oj) (X := 3932160) (Y := 500) hS0 hS2 (by omega) (by omega)
                obtain ⟨p3, p4⟩ := prod_bd (x := T) (y := zj) (X := 500) (Y := 65536) (by omega) (by omega) (by omega) (by omega)
                obtain ⟨p5, p6⟩ := prod_bd (x := S) (y := oi - 1) (X := 3932160) (Y := 500) hS0 hS2 (by omega) (by omega)
                obtain ⟨p7, p8⟩ := prod_bd (x := T) (y := zi) (X := 500) (Y := 65536) (by omega) (by omega) (by omega) (by omega)
                have g1 : IntKind.i64.wrap (S * oj) = S * oj := IntWalk.i64_in _ (by omega)
                have g2 : IntKind.i64.wrap (T * zj) = T * zj := IntWalk.i64_in _ (by omega)
                have g3 : IntKind.i64.wrap (S * oj - T * zj) = S * oj - T * zj := IntWalk.i64_in _ (by omega)
                have g4 : IntKind.i64.wrap (oi - 1) = oi - 1 := IntWalk.i64_in _ (by omega)
                have g5 : IntKind.i64.wrap (S * (oi - 1)) = S * (oi - 1) := IntWalk.i64_in _ (by omega)
                have g6 : IntKind.i64.wrap (T * zi) = T * zi := IntWalk.i64_in _ (by omega)
                have g7 : IntKind.i64.wrap (S * (oi - 1) - T * zi) = S * (oi - 1) - T * zi := IntWalk.i64_in _ (by omega)
                go_wp2
                go_quiet (fail)
                clear g1 g2 g3 g4 g5 g6 g7
                go_wp2
                go_roundw
                case rel => exact ⟨j + 1, by omega, by go_num, below_drewN hB2 _⟩
                case measure => simp [intOf]; omega
              · have hd : decide (1 < oi) = false := by simpa using ho1
                go_wp2
                go_quiet (fail)
                go_wp2
                go_roundw
                case rel => exact ⟨j + 1, by omega, by go_num, below_drewN hB2 _⟩
                case measure => simp [intOf]; omega
            · go_wp2
              go_roundw
              case rel => exact ⟨i + 1, by omega, by go_num, hB2⟩
              case measure => simp [intOf]; omega
        · obtain ⟨wj, rfl⟩ : ∃ wj : World, wj = wr := ⟨_, rfl⟩
          go_wp2
          go_loopw [14, 125] (fun v x wr => ∃ (i : Nat), i ≤ R.length ∧ x = .int .i64 i ∧ wr.ownsRow w1.heap.size 3 1 v i (((R.take i).map (fun z => k * z)).map (Value.int .i64)) ∧ Below w1.heap.size w1 wr) (fun _ x _ => R.length - (intOf x).toNat)
          case atStart => exact ⟨0, Nat.zero_le _, rfl, World.ownsRow_nil _ _ _ _, hB1⟩
          case round =>
            obtain ⟨m, hm, rfl, hown, hB3⟩ := hrel
            have hRl3 : R.length ≤ 60 := by rw [HRL.out]; omega
            by_cases hmR : m < R.length
            · obtain ⟨c, coff, z1, rfl, hc3, hd3⟩ := (RR.out.below hB3).at m hmR
              have ho1 := HRP.out z1 (List.mem_of_mem_drop (by rw [hd3]; simp))
              have ho2 := HRLE.out z1 (List.mem_of_mem_drop (by rw [hd3]; simp))
              obtain ⟨p1, p2⟩ := prod_bd (x := k) (y := z1) (X := 100) (Y := 500) (by omega) (by omega) (by omega) (by omega)
              have hnx : ((R.take (m + 1)).map (fun z => k * z)).map (Value.int .i64) = ((R.take m).map (fun z => k * z)).map (Value.int .i64) ++ [.int .i64 (k * z1)] := by
                have hg := getElem?_of_drop hd3
                rw [List.take_add_one, hg]; simp
              have HNX := Lib.hid hnx
              clear hd3 hnx
              go_wp2_with (at_builtin; refine wpList_append_own _ rfl _ _ 22 rfl w1.heap.size 3 i3 (.int .i64 0) 1 8 Try.underlying22 hi3 hz3a hz3b hz3c rfl (by decide) _ _ _ rfl (hown.alloc _) ⟨wr.heap.size, 0, none⟩ 1 1 [.int .i64 (k * z1)] rfl rfl (cell_one_new _ _ _) (by simp [Value.oneCell']) ?c3 ?c4 ?c5 ?_)
              case c3 => unfold maxLen; omega
              case c4 => omega
              case c5 => have := hB3.size; simp; omega
              intro v' w2 hown' hgrow _
              have hB4 := below_app hB3 hB3.size hown hgrow
              clear hgrow hown
              go_wp2
              go_roundw
              case rel => exact ⟨m + 1, by omega, by go_num, own_congr hown' rfl (by rw [HNX.out]; simp), hB4⟩
              case measure => simp [intOf]; omega
            · have hmn : m = R.length := by omega
              subst hmn
              obtain ⟨va, vc, rfl, rV⟩ := own_rd hown
              rw [List.take_of_length_le (Nat.le_refl _)] at rV
              clear hown
              have hself : ((T : Int) == T) = true := beq_self_eq_true _
              go_wp2_with fail
              refine (quantize_any _ _ _ (R.map (fun z => k * z)) T _ rV).mono ?_
              rw [HAG.out]
              rintro e w3 hret
              obtain ⟨aa, ac, rfl, rA, b3⟩ := hret.open
              go_wp2_with fail
              refine (ints_self _ _ _ _ _ _ _ _ rA ((RR.out.below hB3).below b3)).mono ?_
              rintro e w4 ⟨rfl, b4⟩
              go_wp2_with fail
              refine (alive_any _).mono ?_
              rintro e w5 ⟨rfl, b5⟩
              go_wp2
              go_ret
              exact ⟨rfl, below_tr (below_tr (below_tr (below_tr b1 hB3) b3) b4) b5⟩

end Go.Proofs.Ytcihombiijjndaa
