/-
  The walk of the reference's Best. Condition: the payload has at most 255 bytes.
-/
import Derived.Test.YtifgpjhodajccaaRefC
import Derived.Test.YtifgpjhodajccaaPlainQ
import Derived.Test.YtifgpjhodajccaaWalkH
namespace Go.Proofs.Ytifgpjhodajccaa
open Go.RowKit

/-- The best number of bits of a rest is small. -/
theorem opt_small {cl : Nat} (hc : cl < 3) {bs : List Int} {B : Nat → Int} (hB : Opt cl bs B) : ∀ r a, bs.length - a = r → a ≤ bs.length → B a ≤ 28 * (r : Int)
  | 0, a, hr, ha => by
    have : a = bs.length := by omega
    subst this
    rw [hB.zero]
    omega
  | r + 1, a, hr, ha => by
    have h1 := hB.le a 4 (a + 1) (.inr (.inr rfl)) ⟨by omega, by omega, fun i _ _ => rfl⟩
    have h2 := (head_bnd (m := 4) hc).2
    have h3 := (size_bnd (m := 4) (.inr (.inr rfl)) (a + 1 - a)).2
    have h4 := opt_small hc hB r (a + 1) (by omega) (by omega)
    have h5 : a + 1 - a = 1 := by omega
    rw [h5] at h1 h3
    omega

/-- The choices from a place on, in a block of the call's own. -/
structure RowR (w : World) (g lo n : Nat) (B S L M : Nat → Int) : Prop where
  c : ∀ e, lo ≤ e → e ≤ n → w.cell? ⟨g, e * 4, none⟩ = some (.int .i64 (B e)) ∧ w.cell? ⟨g, e * 4 + 1, none⟩ = some (.int .i64 (S e)) ∧ w.cell? ⟨g, e * 4 + 2, none⟩ = some (.int .i64 (L e)) ∧ w.cell? ⟨g, e * 4 + 3, none⟩ = some (.int .i64 (M e))
  b : ∀ e, lo ≤ e → e ≤ n → 0 ≤ S e ∧ S e ≤ (n : Int) - e ∧ (e < n → 1 ≤ L e ∧ L e ≤ (n : Int) - e ∧ 1 ≤ M e ∧ M e ≤ 4)
  t : w.there g 0 ((n + 1) * 4)
  lt : g < w.heap.size

theorem RowR.chg {X : List Nat} {w w' : World} {g lo n : Nat} {B S L M : Nat → Int} (h : RowR w g lo n B S L M) (hb : Chg X w w') (hs : g ∉ X) : RowR w' g lo n B S L M :=
  ⟨fun e h1 h2 => ⟨(hb.cell (p := ⟨g, e * 4, none⟩) h.lt hs).trans (h.c e h1 h2).1, (hb.cell (p := ⟨g, e * 4 + 1, none⟩) h.lt hs).trans (h.c e h1 h2).2.1, (hb.cell (p := ⟨g, e * 4 + 2, none⟩) h.lt hs).trans (h.c e h1 h2).2.2.1, (hb.cell (p := ⟨g, e * 4 + 3, none⟩) h.lt hs).trans (h.c e h1 h2).2.2.2⟩,
    h.b, there_chg h.t hb h.lt hs, Nat.lt_of_lt_of_le h.lt hb.size⟩

theorem RowR.below {w w' : World} {g lo n : Nat} {B S L M : Nat → Int} (h : RowR w g lo n B S L M) (hb : Below w.heap.size w w') : RowR w' g lo n B S L M := h.chg (X := []) (Chg.of_below hb) (by simp)

/-- One more choice is laid. -/
theorem RowR.put {w : World} {g p n : Nat} {B S L M : Nat → Int} {b1 b2 b3 : Int} (h : RowR w g (p + 1) n B S L M) (hp : p < n) (h1 : 0 ≤ b1) (h1' : b1 ≤ (n : Int) - p) (h2 : 1 ≤ b2) (h2' : b2 ≤ (n : Int) - p) (h3 : 1 ≤ b3) (h3' : b3 ≤ 4) :
    RowR (w.setCells g (p * 4) [.int .i64 (B p), .int .i64 b1, .int .i64 b2, .int .i64 b3]) g p n B (updT S p b1) (updT L p b2) (updT M p b3) := by
  have hc : Chg [g] w (w.setCells g (p * 4) [.int .i64 (B p), .int .i64 b1, .int .i64 b2, .int .i64 b3]) := Chg.setCells (.inl (by simp)) _ _ _ (Chg.refl _ _)
  have ht : w.there g (p * 4) 4 := fun j hj => by
    have := h.t (p * 4 + j) (by omega)
    simpa using this
  have hsame := World.rangeAt_setCells_same w g (p * 4) [.int .i64 (B p), .int .i64 b1, .int .i64 b2, .int .i64 b3] ht
  refine ⟨fun e he hen => ?_, fun e he hen => ?_, World.there_setCells h.t _ _ _, Nat.lt_of_lt_of_le h.lt hc.size⟩
  · by_cases e1 : e = p
    · subst e1
      rw [updT_same, updT_same, updT_same]
      exact ⟨hsame 0 _ rfl, hsame 1 _ rfl, hsame 2 _ rfl, hsame 3 _ rfl⟩
    · rw [updT_other _ _ _ _ e1, updT_other _ _ _ _ e1, updT_other _ _ _ _ e1]
      obtain ⟨c0, c1, c2, c3⟩ := h.c e (by omega) hen
      have far : ∀ j, j < 4 → (w.setCells g (p * 4) [.int .i64 (B p), .int .i64 b1, .int .i64 b2, .int .i64 b3]).cell? ⟨g, e * 4 + j, none⟩ = w.cell? ⟨g, e * 4 + j, none⟩ := fun j hj =>
        World.cell?_setCells_out g _ (p * 4) w ⟨g, e * 4 + j, none⟩ (fun _ _ => .inr (by show p * 4 + 4 ≤ e * 4 + j; omega))
      exact ⟨(far 0 (by omega)).trans c0, (far 1 (by omega)).trans c1, (far 2 (by omega)).trans c2, (far 3 (by omega)).trans c3⟩
  · by_cases e1 : e = p
    · subst e1
      rw [updT_same, updT_same, updT_same]
      exact ⟨h1, h1', fun _ => ⟨h2, h2', h3, h3'⟩⟩
    · rw [updT_other _ _ _ _ e1, updT_other _ _ _ _ e1, updT_other _ _ _ _ e1]
      exact h.b e (by omega) hen

/-- A row of zeros, as the choices of the empty rest. -/
theorem own_rowR {w : World} {B0 n : Nat} {v : Value} {B : Nat → Int} (h : w.ownsRow B0 76 4 v (n + 1) (List.replicate ((n + 1) * 4) (.int .i64 0))) (hB : B n = 0) :
    ∃ g cap, v = .slice (some ⟨g, 0, none⟩) (n + 1) cap ∧ B0 ≤ g ∧ RowR w g n n B (fun _ => 0) (fun _ => 0) (fun _ => 0) := by
  rcases h.2 with ⟨_, h1⟩ | ⟨g, cap, cur, rfl, h1, hg, h2, h3, h4, h5⟩
  · omega
  · have hcell : ∀ o, o < (n + 1) * 4 → w.cell? ⟨g, o, none⟩ = some (.int .i64 0) := fun o ho => by
      rw [cell_of_row _ _ _ _ _ _ hg]
      have e1 : (cur.toList.take ((n + 1) * 4))[o]? = some (.int .i64 0) := by rw [h5]; simp [ho]
      rw [List.getElem?_take_of_lt ho] at e1
      simpa using e1
    have hfr : ∀ o, w.frozen? ⟨g, o, none⟩ = false := fun o => by
      unfold World.frozen?
      simp only [hg]
      simp
    refine ⟨g, cap, rfl, h1, fun e he hen => ?_, fun e he hen => ⟨Int.le_refl _, by omega, fun h => by omega⟩, fun j hj => ⟨?_, hfr _⟩, (Array.getElem?_eq_some_iff.1 hg).1⟩
    · have : e = n := by omega
      subst this
      rw [hB]
      exact ⟨hcell _ (by omega), hcell _ (by omega), hcell _ (by omega), hcell _ (by omega)⟩
    · rw [hcell _ (by omega)]; rfl

theorem info76 : (Try.prog.info? 76).map (fun i => (i.zero, i.size, i.bytes)) = some (some (.agg #[.int .i64 0, .int .i64 0, .int .i64 0, .int .i64 0]), 4, 32) := by kernel_rfl
theorem size76 : (Try.prog.info? 76).map (·.size) = some 4 := by kernel_rfl

set_option maxRecDepth 100000 in
set_option maxHeartbeats 16000000 in
theorem refBest_any (a : Option Addr) (n cap cl : Nat) (bs : List Int) (w : World) (h : RdU w a n bs) (hby : ∀ b ∈ bs, 0 ≤ b ∧ b < 256) (hcl : cl < 3) (hn : n ≤ 255) (hcap : n ≤ cap) (hcap2 : cap ≤ 9223372036854775807) :
    Calls Try.prog 38 #[.slice a n cap, .int .i64 cl] w fun e w' => ∃ v, e = .returned (.tuple #[v, .int .i64 (bitsF cl bs), .int .i64 0]) ∧ Below w.heap.size w w' := by
  obtain ⟨B, hO, hB0⟩ := bstF_opt hcl bs (by rw [h.length]; exact hn)
  have hlen := h.length
  have hBn : B n = 0 := by rw [← hlen]; exact hO.zero
  have hBb : ∀ e, e ≤ n → 0 ≤ B e ∧ B e ≤ 100000 := fun e he => by
    have h1 := opt_nonneg hcl hO (bs.length - e) e rfl (by omega)
    have h2 := opt_small hcl hO (bs.length - e) e rfl (by omega)
    omega
  have H := Lib.hid h; have HL := Lib.hid hlen; have HBY := Lib.hid hby; have HO := Lib.hid hO; have HB0 := Lib.hid hB0; have HBN := Lib.hid hBn; have HBB := Lib.hid hBb
  clear h hlen hby hO hB0 hBn hBb
  obtain ⟨i76, hi76, hz76a, hz76b, hz76c⟩ := info_parts info76
  obtain ⟨i52, hi52, hz52a, hz52b, hz52c⟩ := info_parts info52
  obtain ⟨i5, hi5, hz5a, hz5b, hz5c⟩ := info_parts info5
  have d1 : decide ((cl : Int) < 0) = false := decide_eq_false (by omega)
  have d2 : decide ((2 : Int) < (cl : Int)) = false := decide_eq_false (by omega)
  have d3 : decide ((4096 : Int) < (n : Int)) = false := decide_eq_false (by omega)
  go_enter Try.func38, Try.ntmps38
  go_wp2_with fail
  go_loopg [7, 8] (n + 1) (fun r v x wr => ∃ i : Nat, i + r = n + 1 ∧ x = .int .i64 i ∧ wr.ownsRow w.heap.size 76 4 v i (List.replicate (i * 4) (.int .i64 0)) ∧ Below w.heap.size w wr)
  case atStart => exact ⟨0, by omega, rfl, World.ownsRow_nil _ _ _ _, Below.refl _ _⟩
  case round =>
    obtain ⟨i, hi, rfl, hown, hB⟩ := hrel
    by_cases hlt : i < n + 1
    · have hBs := hB.size
      have q0 : decide ((i : Int) ≤ (n : Int)) = true := decide_eq_true (by omega)
      go_wp2_with (at_builtin; refine wpList_append_own _ rfl _ _ 74 rfl w.heap.size 76 i76 (.agg #[.int .i64 0, .int .i64 0, .int .i64 0, .int .i64 0]) 4 32 Try.underlying74 hi76 hz76a hz76b hz76c rfl (by decide) _ _ _ rfl (hown.alloc _) ⟨wr.heap.size, 0, none⟩ 1 1 [.int .i64 0, .int .i64 0, .int .i64 0, .int .i64 0] rfl rfl (cells_new2 _ _ _ (by simp)) (by simp [Value.oneCell']) ?c3 ?c4 ?c5 ?_)
      case c3 => unfold maxLen; omega
      case c4 => omega
      case c5 => simp; omega
      intro v2 w7 hown7 hgrow7 _
      have hB7 := below_app3 hB hBs hown hgrow7
      have hown8 := own_congr3 (xs' := List.replicate ((i + 1) * 4) (.int .i64 0)) hown7 rfl (by rw [show (i + 1) * 4 = i * 4 + 4 by omega, ← List.replicate_append_replicate]; rfl)
      clear hgrow7 hown hown7
      go_wp2_with fail
      go_roundg (n - i)
      case rel => exact ⟨i + 1, by omega, by go_num, hown8, hB7⟩
      case measure => omega
    · obtain rfl : i = n + 1 := by omega
      have q0 : decide (((n + 1 : Nat) : Int) ≤ (n : Int)) = false := decide_eq_false (by omega)
      obtain ⟨g, rc, rfl, hg, hR⟩ := own_rowR hown HBN.out
      have HR := Lib.hid hR
      clear hown hR
      go_wp2_with fail
      go_loopg [9] n (fun r x wz => ∃ S L M : Nat → Int, x = .int .i64 ((r : Int) - 1) ∧ r ≤ n ∧ Hid (RowR wz g r n B S L M) ∧ Below w.heap.size w wz)
      case atStart => exact ⟨_, _, _, by go_num, Nat.le_refl _, HR, hB⟩
      case round =>
        clear HR hB
        obtain ⟨wz, hwz⟩ : ∃ wz, wz = wr := ⟨_, rfl⟩
        subst hwz
        obtain ⟨S, L, M, rfl, hr, hR, hB⟩ := hrel
        cases gk with
        | zero =>
          have hi0 : (((0 : Nat) : Int) - 1) = -1 := by omega
          rw [hi0]
          obtain ⟨wo, rfl⟩ : ∃ wo : World, wo = wz := ⟨_, rfl⟩
          clear hi0
          go_wp2_with fail
          go_loopg [10, 11] n (fun r v x wr => ∃ (q k : Nat) (xs : List Value), q + r = n ∧ k ≤ q ∧ x = .int .i64 q ∧ wr.ownsRow wo.heap.size 52 2 v k xs ∧ Below wo.heap.size wo wr)
          case atStart => exact ⟨0, 0, [], by omega, Nat.le_refl _, rfl, World.ownsRow_nil _ _ _ _, Below.refl _ _⟩
          case round =>
            obtain ⟨q, k, xs, hq, hkq, rfl, hown, hBo⟩ := hrel
            have hPw := hR.out.below hBo
            by_cases hqn : q < n
            · obtain ⟨_, _, c2, c3⟩ := hPw.c q (Nat.zero_le _) (by omega)
              have hoq := hPw.b q (Nat.zero_le _) (by omega)
              obtain ⟨sz, hsz⟩ := Int.eq_ofNat_of_zero_le (show 0 ≤ L q by have := hoq.2.2 hqn; omega)
              obtain ⟨mm, hmm⟩ := Int.eq_ofNat_of_zero_le (show 0 ≤ M q by have := hoq.2.2 hqn; omega)
              have hsz1 : 1 ≤ sz := by have := hoq.2.2 hqn; omega
              have hszn : q + sz ≤ n := by have := hoq.2.2 hqn; omega
              have HSZ := Lib.hid hsz
              have HMM := Lib.hid hmm
              rw [hsz] at c2
              rw [hmm] at c3
              clear hoq hsz hmm
              have hrd := H.out.below (hB.trans (hBo.mono hB.size))
              obtain ⟨b, off, z, rfl, _, _⟩ := hrd.at q hqn
              have HRD := Lib.hid hrd
              clear hrd
              have q0 : (0 : Int) ≤ (q : Int) := by omega
              have q2 : (q : Int) < (n : Int) + 1 := by omega
              have q3 : (q : Int) ≤ (q : Int) + (sz : Int) := by omega
              have q4 : (q : Int) + (sz : Int) ≤ (cap : Int) := by omega
              have w1 : IntKind.i64.wrap ((q : Int) + (sz : Int)) = (q : Int) + sz := IntWalk.i64_in _ (by omega)
              have hBs := hBo.size
              have hqc : ¬ (q = cap) := by omega
              have hqc2 : ¬ (cap = q) := by omega
              go_wp2_with (at_builtin; refine wpList_append_own _ rfl _ _ 22 rfl wo.heap.size 5 i5 (.int .u8 0) 1 1 Try.underlying22 hi5 hz5a hz5b hz5c rfl (by decide) _ 0 [] rfl (World.ownsRow_nil _ _ _ _) ⟨b, off + q, none⟩ (q + sz - q) (cap - q) (((bs.drop q).take sz).map (Value.int .u8)) rfl ?c1 (rd_sub HRD.out q sz hszn) ?c2 ?c3 ?c4 ?c5 ?_)
              case c1 => have := HL.out; simp; omega
              case c2 => intro u hu; obtain ⟨x, _, rfl⟩ := List.mem_map.1 hu; rfl
              case c3 => unfold maxLen; omega
              case c4 => omega
              case c5 => exact hBs
              intro v1 w5 hown5 hgrow5 _
              have hB5 : Below wo.heap.size wo w5 := hBo.grown hgrow5 hBs (fun k e => by cases e)
              have hown6 : w5.ownsRow wo.heap.size 52 2 u10 k xs := hown.kept hgrow5 (by cases hv : u10.ownBlock <;> simp [Value.ownBlock])
              have hown5' := own_congr hown5 (show _ = sz by omega) rfl
              obtain ⟨da, dc, rfl, _⟩ := own_rd hown5'
              clear hown5'
              obtain ⟨_, _, c2', c3'⟩ := (hR.out.below hB5).c q (Nat.zero_le _) (by omega)
              rw [HSZ.out] at c2'
              rw [HMM.out] at c3'
              have hB5s := hB5.size
              clear hgrow5 hown5 hown c2 c3 hPw hBo HRD
              go_wp2_with (at_builtin; refine wpList_append_own _ rfl _ _ 38 rfl wo.heap.size 52 i52 (.agg #[.int .i64 0, .slice none 0 0]) 2 32 Try.underlying38 hi52 hz52a hz52b hz52c rfl (by decide) _ _ _ rfl (hown6.alloc _) ⟨w5.heap.size, 0, none⟩ 1 1 [.int .i64 mm, .slice da sz dc] rfl rfl (cells_new2 _ _ _ (by simp)) (by simp [Value.oneCell']) ?c3 ?c4 ?c5 ?_)
              case c3 => unfold maxLen; omega
              case c4 => omega
              case c5 => simp; omega
              intro v2 w7 hown7 hgrow7 _
              have hB7 := below_app3 hB5 hB5s hown6 hgrow7
              obtain ⟨_, _, c2', _⟩ := (hR.out.below hB7).c q (Nat.zero_le _) (by omega)
              rw [HSZ.out] at c2'
              clear hgrow7 hown6
              go_wp2_with fail
              go_roundg (n - (q + sz))
              case rel => exact ⟨q + sz, k + 1, _, by omega, by omega, by go_num, hown7, hB7⟩
              case measure => omega
            · obtain rfl : q = n := by omega
              have hbits := (hPw.c 0 (Nat.le_refl _) (Nat.zero_le _)).1
              simp only [Nat.zero_mul] at hbits
              have q2 : (0 : Int) < (q : Int) + 1 := by omega
              clear hPw
              go_wp2_with fail
              go_quiet (fail)
              go_wp2_with fail
              refine bodyPost_ret (results_tmp3 rfl _ _ _) rfl ?_
              rw [HB0.out]
              exact ⟨_, rfl, hB.trans ((below_drewN hBo _).mono hB.size)⟩
        | succ p =>
          have hi1 : (((p + 1 : Nat) : Int) - 1) = (p : Int) := by omega
          rw [hi1]
          have hRest : RestR wz g 0 p n B S := ⟨fun e h1 h2 => by
            have := hR.out.c e (by omega) h2
            simp only [Nat.zero_add]
            exact ⟨this.1, this.2.1⟩, fun e h1 h2 => by
            have := hR.out.b e (by omega) h2
            have := HBB.out e h2
            omega, hR.out.lt⟩
          have HF := Lib.hid (first_any a n cap p cl g 0 rc bs B S wz (H.out.below hB) HBY.out hn (by omega) hcl HO.out hRest)
          have q0 : decide ((0 : Int) ≤ (p : Int)) = true := decide_eq_true (by omega)
          have q1 : (p : Int) < (n : Int) + 1 := by omega
          have hls := hR.out.lt
          clear hRest hi1
          go_wp2_with fail
          refine HF.out.mono ?_
          rintro e w5 ⟨⟨b1, b2, b3, rfl, h1, h1', h2, h2', h3, h3'⟩, hb5⟩
          have hR5 := hR.out.below hb5
          have hB5 := below_tr hB hB.size hb5
          have ht : w5.there g (p * 4) 4 := fun j hj => by
            have := hR5.t (p * 4 + j) (by omega)
            simpa using this
          have hput := hR5.put (b1 := b1) (b2 := b2) (b3 := b3) (by omega) (by omega) h1' h2 h2' h3 h3'
          have hcg : Chg [g] w5 (w5.setCells g (p * 4) [.int .i64 (B p), .int .i64 b1, .int .i64 b2, .int .i64 b3]) := Chg.setCells (.inl (by simp)) _ _ _ (Chg.refl _ _)
          have hB7 := hcg.below hB5 hB5.size (by simp; exact hg)
          have HR7 := Lib.hid hput
          clear hput hcg hR5 hR HF hb5
          go_wp2_with (refine wpList_store_mid rfl 76 (.tmp 46) (.tmp 45) rfl g (p * 4) #[.int .i64 (B p), .int .i64 b1, .int .i64 b2, .int .i64 b3] rfl rfl ht size76 (one4 _ _ _ _) ?_)
          go_roundg p
          case rel => exact ⟨_, _, _, by go_num, by omega, HR7, hB7⟩
          case measure => omega

end Go.Proofs.Ytifgpjhodajccaa
