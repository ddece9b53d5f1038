/-
  The walk of the statement SplitMinimal: it returns true. No condition.
-/
import Derived.Test.YtifgpjhodajccaaRefH
import Derived.Test.YtifgpjhodajccaaWalkV
namespace Go.Proofs.Ytifgpjhodajccaa
open Go.RowKit

/-- What the law has seen of a division: the whole as one part, or parts that fit with 20 more bits. -/
def SeenP (bs : List Int) (ve le q k : Nat) : Prop :=
  (q = bs.length ∧ k = 1 ∧ fitsF bs ve le 0 = true) ∨ (∀ j, Divs ve le (bs.drop q) j → Divs ve le bs (k + j))

theorem seen_nil (bs : List Int) (ve le : Nat) : SeenP bs ve le 0 0 := .inr fun j h => by rw [Nat.zero_add]; exact h

theorem seen_step {bs : List Int} {ve le q k s : Nat} (h : SeenP bs ve le q k) (hq : q < bs.length) (hs : 0 < s) (hsn : q + s ≤ bs.length) (hf : fitsF ((bs.drop q).take s) ve le 20 = true) : SeenP bs ve le (q + s) (k + 1) := by
  rcases h with h | h
  · omega
  · refine .inr fun j hj => ?_
    have := h (j + 1) (.cons (n := s) hs (by simp; omega) hf (by rw [List.drop_drop]; exact hj))
    rwa [show k + (j + 1) = k + 1 + j by omega] at this

theorem seen_whole {bs : List Int} {ve le k : Nat} (hk : k = 0) (hf : fitsF bs ve le 0 = true) : SeenP bs ve le (0 + bs.length) (k + 1) := .inl ⟨by omega, by omega, hf⟩

/-- The cuts are no more than what was seen. -/
theorem seen_cuts {bs : List Int} {ve le k : Nat} (hn : bs.length ≤ 255) (v1 : 1 ≤ ve) (v2 : ve ≤ 40) (l1 : 1 ≤ le) (l2 : le ≤ 4) (hk : 1 ≤ k) (hk2 : k ≤ 16) (h : SeenP bs ve le bs.length k) :
    ∃ xs, cutsF bs ve le = (xs, 0) ∧ xs.length ≤ k := by
  unfold cutsF
  rw [if_neg (by omega), if_neg (by omega), if_neg (by omega), Int.toNat_natCast, Int.toNat_natCast]
  by_cases hf : fitsF bs ve le 0 = true
  · rw [if_pos hf]
    exact ⟨_, rfl, hk⟩
  · rw [if_neg hf]
    rcases h with ⟨_, _, h⟩ | h
    · exact absurd h hf
    · have hd := h 0 (by rw [List.drop_length]; exact .nil)
      obtain ⟨xs, h1, h2⟩ := greedy k bs [] (bs.length + 1) hn hd (by simpa using hk2) (by omega)
      exact ⟨xs, h1, by simpa using h2⟩

set_option maxRecDepth 100000 in
set_option maxHeartbeats 8000000 in
theorem splitMinimal_walk (a : Option Addr) (n cap : Nat) (bs : List Int) (x1 x2 : Int) (a3 : Option Addr) (n3 cap3 : Nat) (ls : List Int) (w : World) (h : RdU w a n bs) (hby : ∀ b ∈ bs, 0 ≤ b ∧ b < 256) (hcap : n ≤ cap) (hcap2 : cap ≤ 9223372036854775807)
    (hx1 : 0 ≤ x1 ∧ x1 < 256) (hx2 : 0 ≤ x2 ∧ x2 < 256) (h3 : RdU w a3 n3 ls) (hby3 : ∀ b ∈ ls, 0 ≤ b ∧ b < 256) :
    Calls Try.prog 7 #[.slice a n cap, .int .u8 x1, .int .u8 x2, .slice a3 n3 cap3] w fun e w' => e = .returned (.bool true) ∧ Below w.heap.size w w' := by
  obtain ⟨ve, hve⟩ := Int.eq_ofNat_of_zero_le (show 0 ≤ x1 % 40 from Int.emod_nonneg _ (by omega))
  obtain ⟨le, hle⟩ := Int.eq_ofNat_of_zero_le (show 0 ≤ x2 % 4 from Int.emod_nonneg _ (by omega))
  have e1 : x1.tmod 40 = x1 % 40 := Int.tmod_eq_emod_of_nonneg hx1.1
  have e2 : x2.tmod 4 = x2 % 4 := Int.tmod_eq_emod_of_nonneg hx2.1
  have v1 : ve < 40 := by omega
  have v2 : le < 4 := by omega
  by_cases hbig : 120 < n
  · have q0 : decide (120 < (n : Int)) = true := decide_eq_true (by omega)
    go_enter Try.func7, Try.ntmps7
    go_wp2_with fail
    refine (example_any _).mono ?_
    rintro e w2 ⟨rfl, b2⟩
    go_wp2
    go_ret
    exact ⟨rfl, b2⟩
  have q0 : decide (120 < (n : Int)) = false := decide_eq_false (by omega)
  by_cases hbig3 : 16 < n3
  · have q1 : decide (16 < (n3 : Int)) = true := decide_eq_true (by omega)
    go_enter Try.func7, Try.ntmps7
    go_wp2_with fail
    refine (example_any _).mono ?_
    rintro e w2 ⟨rfl, b2⟩
    go_wp2
    go_ret
    exact ⟨rfl, b2⟩
  have q1 : decide (16 < (n3 : Int)) = false := decide_eq_false (by omega)
  go_enter Try.func7, Try.ntmps7
  go_wp2_with fail
  obtain ⟨V, hV⟩ : ∃ V, 1 + ve = V := ⟨_, rfl⟩
  obtain ⟨L, hL⟩ : ∃ L, 1 + le = L := ⟨_, rfl⟩
  rw [show (1 : Int) + (ve : Int) = (V : Int) by omega, show (1 : Int) + (le : Int) = (L : Int) by omega]
  have V1 : 1 ≤ V := by omega
  have V2 : V ≤ 40 := by omega
  have L1 : 1 ≤ L := by omega
  have L2 : L ≤ 4 := by omega
  have H := Lib.hid h
  have HL := Lib.hid h.length
  have HBY := Lib.hid hby
  have H3 := Lib.hid h3
  have HL3 := Lib.hid h3.length
  have HBY3 := Lib.hid hby3
  have hn : n ≤ 120 := by omega
  have hn3 : n3 ≤ 16 := by omega
  clear hV hL e1 e2 v1 v2 hve hle hx1 hx2 h hby h3 hby3 q0 q1 hbig hbig3
  go_loopg [11, 12, 13] n3 (fun r xa xn xi wr => ∃ q i : Nat, i + r = n3 ∧ xa = .int .i64 q ∧ xn = .int .i64 i ∧ xi = .int .i64 i ∧ q ≤ n ∧ (0 < i → 0 < q) ∧ Hid (SeenP bs V L q i) ∧ Below w.heap.size w wr)
  case atStart => exact ⟨0, 0, by omega, rfl, rfl, rfl, Nat.zero_le _, by omega, Lib.hid (seen_nil _ _ _), Below.refl _ _⟩
  case round =>
    obtain ⟨q, i, hi, rfl, rfl, rfl, hq, hI, hS, hB⟩ := hrel
    by_cases hlt : i < n3 ∧ q < n
    · obtain ⟨hi3, hqn⟩ := hlt
      obtain ⟨b3, off3, z, rfl, hz, hdz⟩ := (H3.out.below hB).at i hi3
      have hzb := HBY3.out z (List.mem_of_getElem? (getElem?_of_drop hdz))
      obtain ⟨zn, rfl⟩ := Int.eq_ofNat_of_zero_le hzb.1
      obtain ⟨b, off, y, rfl, _, _⟩ := (H.out.below hB).at q hqn
      have p0 : decide ((i : Int) < (n3 : Int)) = true := decide_eq_true (by omega)
      have p1 : decide ((q : Int) < (n : Int)) = true := decide_eq_true (by omega)
      have p2 : (0 : Int) ≤ (i : Int) := by omega
      have p3 : (i : Int) < (n3 : Int) := by omega
      have p4 : (zn : Int) < 256 := hzb.2
      have HSUB := Lib.hid (fun (S : Nat) (h : q + S ≤ n) W (hW : Below w.heap.size w W) => Rd.sub (H.out.below hW) q S h)
      clear hdz hzb
      obtain ⟨T, hT⟩ : ∃ T, 1 + zn = T := ⟨_, rfl⟩
      obtain ⟨S0, hS0⟩ : ∃ S0, n - q = S0 := ⟨_, rfl⟩
      have r1 : (1 : Int) + (zn : Int) = (T : Int) := by omega
      have r2 : (n : Int) - (q : Int) = (S0 : Int) := by omega
      have hcase : S0 < T ∨ (¬ S0 < T ∧ i + 1 = n3) ∨ (¬ S0 < T ∧ ¬ i + 1 = n3) := by omega
      have t1 : 0 < T := by omega
      have t2 : 0 < S0 := by omega
      have t3 : q + S0 = n := by omega
      have t4 : T ≤ 256 := by omega
      clear hT hS0
      rcases hcase with hc | ⟨hc, hc2⟩ | ⟨hc, hc2⟩
      · have m0 : decide ((S0 : Int) < (T : Int)) = true := decide_eq_true (by omega)
        have m0' : decide (S0 < T) = true := decide_eq_true (by omega)
        obtain ⟨S, rfl⟩ : ∃ S, S = S0 := ⟨_, rfl⟩
        have s1 : q + S ≤ n := by omega
        have s0 : 0 < S := by omega
        have p5 : (0 : Int) ≤ (q : Int) := by omega
        have p6 : (q : Int) ≤ (q : Int) + (S : Int) := by omega
        have p7 : (q : Int) + (S : Int) ≤ (cap : Int) := by omega
        have p8 : (n3 : Int) ≤ 16 := by omega
        have hqc : ¬ (q = cap) := by omega
        have hqc2 : ¬ (cap = q) := by omega
        have HF := Lib.hid (fun (ex : Int) (x0 : 0 ≤ ex) (x1 : ex ≤ 1000) => ref23Fits_any (some ⟨b, off + q, none⟩) S (cap - q) V L ex ((bs.drop q).take S) wr (HSUB.out S s1 wr hB) (fun x hx => HBY.out x (List.mem_of_mem_drop (List.mem_of_mem_take hx))) L1 L2 x0 x1 (by omega) (by omega) (by omega))
        clear hc t3
        by_cases hSn : S = n
        · have m2 : ((S : Int) == (n : Int)) = true := by simp; omega
          obtain rfl : q = 0 := by omega
          have p9 : (S : Int) ≤ 120 := by omega
          have p10 : ¬ (0 = cap) := by omega
          subst hSn
          have hfk := HF.out 0 (by omega) (by omega)
          have hk : i = 0 := Nat.eq_zero_of_not_pos (fun h => absurd (hI h) (by omega))
          cases hf : fitsF ((bs.drop 0).take S) V L 0 with
          | true =>
            have HN : Hid (SeenP bs V L (0 + bs.length) (i + 1)) := Lib.hid (seen_whole hk (by have := hf; rwa [List.drop_zero, List.take_of_length_le (by rw [HL.out]; exact Nat.le_refl _)] at this))
            rw [HL.out] at HN
            rw [hf] at hfk
            have HFK := Lib.hid hfk
            clear hfk hf HF HSUB hk
            go_wp2_with fail
            refine HFK.out.mono ?_
            rintro e w5 ⟨rfl, hb5⟩
            have hB5 := below_tr hB hB.size hb5
            go_wp2_with fail
            go_roundg (n3 - (i + 1))
            case rel => exact ⟨0 + S, i + 1, by omega, by go_num, by go_num, by go_num, by omega, by omega, HN, hB5⟩
            case measure => omega
          | false =>
            rw [hf] at hfk
            have HFK := Lib.hid hfk
            clear hfk hf HF HSUB hk
            go_wp2_with fail
            refine HFK.out.mono ?_
            rintro e w5 ⟨rfl, hb5⟩
            have hB5 := below_tr hB hB.size hb5
            go_wp2_with fail
            refine (example_any _).mono ?_
            rintro e w6 ⟨rfl, hb6⟩
            go_wp2
            go_ret
            exact ⟨rfl, below_tr hB5 hB5.size hb6⟩
        · have m2 : ((S : Int) == (n : Int)) = false := by simp; omega
          have hfk := HF.out 20 (by omega) (by omega)
          cases hf : fitsF ((bs.drop q).take S) V L 20 with
          | true =>
            have HN : Hid (SeenP bs V L (q + S) (i + 1)) := Lib.hid (seen_step hS.out (by rw [HL.out]; omega) s0 (by rw [HL.out]; omega) hf)
            rw [hf] at hfk
            have HFK := Lib.hid hfk
            clear hfk hf HF HSUB
            go_wp2_with fail
            refine HFK.out.mono ?_
            rintro e w5 ⟨rfl, hb5⟩
            have hB5 := below_tr hB hB.size hb5
            go_wp2_with fail
            go_roundg (n3 - (i + 1))
            case rel => exact ⟨q + S, i + 1, by omega, by go_num, by go_num, by go_num, by omega, by omega, HN, hB5⟩
            case measure => omega
          | false =>
            rw [hf] at hfk
            have HFK := Lib.hid hfk
            clear hfk hf HF HSUB
            go_wp2_with fail
            refine HFK.out.mono ?_
            rintro e w5 ⟨rfl, hb5⟩
            have hB5 := below_tr hB hB.size hb5
            go_wp2_with fail
            refine (example_any _).mono ?_
            rintro e w6 ⟨rfl, hb6⟩
            go_wp2
            go_ret
            exact ⟨rfl, below_tr hB5 hB5.size hb6⟩
      · have m0 : decide ((S0 : Int) < (T : Int)) = false := decide_eq_false (by omega)
        have m0' : decide (S0 < T) = false := decide_eq_false (by omega)
        have m1 : ((i : Int) == (n3 : Int) - 1) = true := by simp; omega
        obtain ⟨S, rfl⟩ : ∃ S, S = S0 := ⟨_, rfl⟩
        have s1 : q + S ≤ n := by omega
        have s0 : 0 < S := by omega
        have p5 : (0 : Int) ≤ (q : Int) := by omega
        have p6 : (q : Int) ≤ (q : Int) + (S : Int) := by omega
        have p7 : (q : Int) + (S : Int) ≤ (cap : Int) := by omega
        have p8 : (n3 : Int) ≤ 16 := by omega
        have hqc : ¬ (q = cap) := by omega
        have hqc2 : ¬ (cap = q) := by omega
        have HF := Lib.hid (fun (ex : Int) (x0 : 0 ≤ ex) (x1 : ex ≤ 1000) => ref23Fits_any (some ⟨b, off + q, none⟩) S (cap - q) V L ex ((bs.drop q).take S) wr (HSUB.out S s1 wr hB) (fun x hx => HBY.out x (List.mem_of_mem_drop (List.mem_of_mem_take hx))) L1 L2 x0 x1 (by omega) (by omega) (by omega))
        clear hc hc2 t3
        by_cases hSn : S = n
        · have m2 : ((S : Int) == (n : Int)) = true := by simp; omega
          obtain rfl : q = 0 := by omega
          have p9 : (S : Int) ≤ 120 := by omega
          have p10 : ¬ (0 = cap) := by omega
          subst hSn
          have hfk := HF.out 0 (by omega) (by omega)
          have hk : i = 0 := Nat.eq_zero_of_not_pos (fun h => absurd (hI h) (by omega))
          cases hf : fitsF ((bs.drop 0).take S) V L 0 with
          | true =>
            have HN : Hid (SeenP bs V L (0 + bs.length) (i + 1)) := Lib.hid (seen_whole hk (by have := hf; rwa [List.drop_zero, List.take_of_length_le (by rw [HL.out]; exact Nat.le_refl _)] at this))
            rw [HL.out] at HN
            rw [hf] at hfk
            have HFK := Lib.hid hfk
            clear hfk hf HF HSUB hk
            go_wp2_with fail
            refine HFK.out.mono ?_
            rintro e w5 ⟨rfl, hb5⟩
            have hB5 := below_tr hB hB.size hb5
            go_wp2_with fail
            go_roundg (n3 - (i + 1))
            case rel => exact ⟨0 + S, i + 1, by omega, by go_num, by go_num, by go_num, by omega, by omega, HN, hB5⟩
            case measure => omega
          | false =>
            rw [hf] at hfk
            have HFK := Lib.hid hfk
            clear hfk hf HF HSUB hk
            go_wp2_with fail
            refine HFK.out.mono ?_
            rintro e w5 ⟨rfl, hb5⟩
            have hB5 := below_tr hB hB.size hb5
            go_wp2_with fail
            refine (example_any _).mono ?_
            rintro e w6 ⟨rfl, hb6⟩
            go_wp2
            go_ret
            exact ⟨rfl, below_tr hB5 hB5.size hb6⟩
        · have m2 : ((S : Int) == (n : Int)) = false := by simp; omega
          have hfk := HF.out 20 (by omega) (by omega)
          cases hf : fitsF ((bs.drop q).take S) V L 20 with
          | true =>
            have HN : Hid (SeenP bs V L (q + S) (i + 1)) := Lib.hid (seen_step hS.out (by rw [HL.out]; omega) s0 (by rw [HL.out]; omega) hf)
            rw [hf] at hfk
            have HFK := Lib.hid hfk
            clear hfk hf HF HSUB
            go_wp2_with fail
            refine HFK.out.mono ?_
            rintro e w5 ⟨rfl, hb5⟩
            have hB5 := below_tr hB hB.size hb5
            go_wp2_with fail
            go_roundg (n3 - (i + 1))
            case rel => exact ⟨q + S, i + 1, by omega, by go_num, by go_num, by go_num, by omega, by omega, HN, hB5⟩
            case measure => omega
          | false =>
            rw [hf] at hfk
            have HFK := Lib.hid hfk
            clear hfk hf HF HSUB
            go_wp2_with fail
            refine HFK.out.mono ?_
            rintro e w5 ⟨rfl, hb5⟩
            have hB5 := below_tr hB hB.size hb5
            go_wp2_with fail
            refine (example_any _).mono ?_
            rintro e w6 ⟨rfl, hb6⟩
            go_wp2
            go_ret
            exact ⟨rfl, below_tr hB5 hB5.size hb6⟩
      · have m0 : decide ((S0 : Int) < (T : Int)) = false := decide_eq_false (by omega)
        have m0' : decide (S0 < T) = false := decide_eq_false (by omega)
        have m1 : ((i : Int) == (n3 : Int) - 1) = false := by simp; omega
        obtain ⟨S, rfl⟩ : ∃ S, S = T := ⟨_, rfl⟩
        have s1 : q + S ≤ n := by omega
        have s0 : 0 < S := by omega
        have p5 : (0 : Int) ≤ (q : Int) := by omega
        have p6 : (q : Int) ≤ (q : Int) + (S : Int) := by omega
        have p7 : (q : Int) + (S : Int) ≤ (cap : Int) := by omega
        have p8 : (n3 : Int) ≤ 16 := by omega
        have hqc : ¬ (q = cap) := by omega
        have hqc2 : ¬ (cap = q) := by omega
        have HF := Lib.hid (fun (ex : Int) (x0 : 0 ≤ ex) (x1 : ex ≤ 1000) => ref23Fits_any (some ⟨b, off + q, none⟩) S (cap - q) V L ex ((bs.drop q).take S) wr (HSUB.out S s1 wr hB) (fun x hx => HBY.out x (List.mem_of_mem_drop (List.mem_of_mem_take hx))) L1 L2 x0 x1 (by omega) (by omega) (by omega))
        clear hc hc2 t3
        by_cases hSn : S = n
        · have m2 : ((S : Int) == (n : Int)) = true := by simp; omega
          obtain rfl : q = 0 := by omega
          have p9 : (S : Int) ≤ 120 := by omega
          have p10 : ¬ (0 = cap) := by omega
          subst hSn
          have hfk := HF.out 0 (by omega) (by omega)
          have hk : i = 0 := Nat.eq_zero_of_not_pos (fun h => absurd (hI h) (by omega))
          cases hf : fitsF ((bs.drop 0).take S) V L 0 with
          | true =>
            have HN : Hid (SeenP bs V L (0 + bs.length) (i + 1)) := Lib.hid (seen_whole hk (by have := hf; rwa [List.drop_zero, List.take_of_length_le (by rw [HL.out]; exact Nat.le_refl _)] at this))
            rw [HL.out] at HN
            rw [hf] at hfk
            have HFK := Lib.hid hfk
            clear hfk hf HF HSUB hk
            go_wp2_with fail
            refine HFK.out.mono ?_
            rintro e w5 ⟨rfl, hb5⟩
            have hB5 := below_tr hB hB.size hb5
            go_wp2_with fail
            go_roundg (n3 - (i + 1))
            case rel => exact ⟨0 + S, i + 1, by omega, by go_num, by go_num, by go_num, by omega, by omega, HN, hB5⟩
            case measure => omega
          | false =>
            rw [hf] at hfk
            have HFK := Lib.hid hfk
            clear hfk hf HF HSUB hk
            go_wp2_with fail
            refine HFK.out.mono ?_
            rintro e w5 ⟨rfl, hb5⟩
            have hB5 := below_tr hB hB.size hb5
            go_wp2_with fail
            refine (example_any _).mono ?_
            rintro e w6 ⟨rfl, hb6⟩
            go_wp2
            go_ret
            exact ⟨rfl, below_tr hB5 hB5.size hb6⟩
        · have m2 : ((S : Int) == (n : Int)) = false := by simp; omega
          have hfk := HF.out 20 (by omega) (by omega)
          cases hf : fitsF ((bs.drop q).take S) V L 20 with
          | true =>
            have HN : Hid (SeenP bs V L (q + S) (i + 1)) := Lib.hid (seen_step hS.out (by rw [HL.out]; omega) s0 (by rw [HL.out]; omega) hf)
            rw [hf] at hfk
            have HFK := Lib.hid hfk
            clear hfk hf HF HSUB
            go_wp2_with fail
            refine HFK.out.mono ?_
            rintro e w5 ⟨rfl, hb5⟩
            have hB5 := below_tr hB hB.size hb5
            go_wp2_with fail
            go_roundg (n3 - (i + 1))
            case rel => exact ⟨q + S, i + 1, by omega, by go_num, by go_num, by go_num, by omega, by omega, HN, hB5⟩
            case measure => omega
          | false =>
            rw [hf] at hfk
            have HFK := Lib.hid hfk
            clear hfk hf HF HSUB
            go_wp2_with fail
            refine HFK.out.mono ?_
            rintro e w5 ⟨rfl, hb5⟩
            have hB5 := below_tr hB hB.size hb5
            go_wp2_with fail
            refine (example_any _).mono ?_
            rintro e w6 ⟨rfl, hb6⟩
            go_wp2
            go_ret
            exact ⟨rfl, below_tr hB5 hB5.size hb6⟩
    · by_cases hqn : q < n
      · obtain rfl : i = n3 := by omega
        have z0 : decide ((i : Int) < (i : Int)) = false := decide_eq_false (by omega)
        have z1 : decide ((q : Int) < (n : Int)) = true := decide_eq_true (by omega)
        have z2 : decide (q < n) = true := decide_eq_true hqn
        clear hlt
        go_wp2_with fail
        refine (example_any _).mono ?_
        rintro e w6 ⟨rfl, hb6⟩
        go_wp2
        go_ret
        exact ⟨rfl, below_tr hB hB.size hb6⟩
      obtain rfl : q = n := by omega
      have z1 : decide ((q : Int) < (q : Int)) = false := decide_eq_false (by omega)
      by_cases hi0 : i = 0
      · subst hi0
        clear hlt
        by_cases h3 : 0 < n3
        · have z3 : decide (0 < n3) = true := decide_eq_true h3
          have z4 : decide ((0 : Int) < (n3 : Int)) = true := decide_eq_true (by omega)
          go_wp2_with fail
          refine (example_any _).mono ?_
          rintro e w6 ⟨rfl, hb6⟩
          go_wp2
          go_ret
          exact ⟨rfl, below_tr hB hB.size hb6⟩
        · obtain rfl : n3 = 0 := by omega
          go_wp2_with fail
          refine (example_any _).mono ?_
          rintro e w6 ⟨rfl, hb6⟩
          go_wp2
          go_ret
          exact ⟨rfl, below_tr hB hB.size hb6⟩
      obtain ⟨xs, hx1, hx2⟩ := seen_cuts (by rw [HL.out]; omega) V1 V2 L1 L2 (show 1 ≤ i by omega) (by omega) (by rw [HL.out]; exact hS.out)
      have hcu := cuts_any a q cap V L bs wr (H.out.below hB) HBY.out hcap hcap2
      rw [hx1] at hcu
      have HC := Lib.hid hcu
      have y0 : ((i : Int) == 0) = false := by simp; omega
      have y1 : decide ((xs.length : Int) ≤ (i : Int)) = true := decide_eq_true (by omega)
      have y2 : decide (xs.length ≤ i) = true := decide_eq_true hx2
      clear hx1 hcu hS hlt
      by_cases h3 : i < n3
      · have z3 : decide (i < n3) = true := decide_eq_true h3
        have z4 : decide ((i : Int) < (n3 : Int)) = true := decide_eq_true (by omega)
        go_wp2_with fail
        refine HC.out.mono ?_
        rintro e w5 hret
        obtain ⟨a5, cap5, rfl, _, d5⟩ := hret.open
        have hB5 := below_tr hB hB.size d5
        clear hret HC
        go_wp2_with fail
        refine (example_any _).mono ?_
        rintro e w6 ⟨rfl, hb6⟩
        go_wp2
        go_ret
        exact ⟨rfl, below_tr hB5 hB5.size hb6⟩
      · obtain rfl : i = n3 := by omega
        have z4 : decide ((i : Int) < (i : Int)) = false := decide_eq_false (by omega)
        go_wp2_with fail
        refine HC.out.mono ?_
        rintro e w5 hret
        obtain ⟨a5, cap5, rfl, _, d5⟩ := hret.open
        have hB5 := below_tr hB hB.size d5
        clear hret HC
        go_wp2_with fail
        refine (example_any _).mono ?_
        rintro e w6 ⟨rfl, hb6⟩
        go_wp2
        go_ret
        exact ⟨rfl, below_tr hB5 hB5.size hb6⟩

end Go.Proofs.Ytifgpjhodajccaa
