/-
  The walk of the statement Code128Returns: it returns true. No condition.
-/
import Derived.Test.YtofedeokliljkaaPlainJ
import Derived.Test.YtofedeokliljkaaWalkAl
namespace Go.Proofs.Ytofedeokliljkaa
open Go.RowKit

theorem values_bad {cs : List Int} (h : cs.length ≤ 200) : (∃ c, c ≠ 0 ∧ valuesF cs = ([], c) ∧ encodeF cs = ([], c)) ∨ (cs.length ≠ 0 ∧ badC cs = false ∧ valuesF cs = (seqF cs ++ [chkL (seqF cs), 106], 0)) := by
  by_cases h0 : cs.length = 0
  · left
    have hv : valuesF cs = ([], 5) := by unfold valuesF; rw [if_pos h0]
    exact ⟨5, by omega, hv, by unfold encodeF; rw [hv]; rfl⟩
  · by_cases hb : badC cs = true
    · left
      have hv : valuesF cs = ([], 6) := by unfold valuesF; rw [if_neg h0, if_neg (by omega), if_pos hb]
      exact ⟨6, by omega, hv, by unfold encodeF; rw [hv]; rfl⟩
    · right
      have hb' : badC cs = false := by simpa using hb
      exact ⟨h0, hb', by unfold valuesF; rw [if_neg h0, if_neg (by omega), if_neg hb]⟩

theorem returns_cases {cs : List Int} (h : cs.length ≤ 200) : (∃ c, c ≠ 0 ∧ valuesF cs = ([], c) ∧ encodeF cs = ([], c)) ∨
    (∃ vs row, valuesF cs = (vs, 0) ∧ encodeF cs = (row, 0) ∧ charsF vs = (cs, 0) ∧ decF row = (cs, 0) ∧ vs.length ≤ 2 * cs.length + 3 ∧ row.length ≤ 65536) := by
  rcases values_bad h with h1 | ⟨h0, hb, hv⟩
  · exact .inl h1
  · right
    have hl := seq_len_two hb (by omega)
    obtain ⟨e1, e2⟩ := encode_decode h0 hb (by omega) (by omega)
    have hrl : (encodeF cs).1.length ≤ 65536 := by
      unfold encodeF
      repeat' split
      all_goals simp
      omega
    refine ⟨_, (encodeF cs).1, hv, ?_, chars_values hb (by omega), e2, by simp; omega, hrl⟩
    rw [← e1]

theorem RetI.open3 {xs : List Int} {c : Int} {w w' : World} {e : Ending} (h : RetI xs c w e w') : ∃ a cap, e = .returned (.tuple #[.slice a xs.length cap, .int .i64 c]) ∧ RdI w' a xs.length xs ∧ xs.length ≤ cap ∧ cap ≤ 9223372036854775807 ∧ Below w.heap.size w w' := by
  obtain ⟨v, rfl, hown, hb⟩ := h
  obtain ⟨a, cap, rfl, hrd, h1, h2⟩ := own_rd3 hown
  exact ⟨a, cap, rfl, hrd, h1, h2, hb⟩

set_option maxRecDepth 100000 in
set_option maxHeartbeats 4000000 in
theorem code128Returns_walk (a : Option Addr) (n cap : Nat) (cs : List Int) (w : World) (h : RdI w a n cs) :
    Calls Try.prog 6 #[.slice a n cap] w fun e w' => e = .returned (.bool true) ∧ Below w.heap.size w w' := by
  have hlen := h.length
  by_cases hn : 200 < n
  · have hd : decide (200 < (n : Int)) = true := by simp; omega
    clear hlen h
    go_enter Try.func6, Try.ntmps6
    go_wp2_with fail
    refine (alive_any _).mono ?_
    rintro e w1 ⟨rfl, hb⟩
    go_wp2
    go_ret
    exact ⟨rfl, hb⟩
  have hd : decide (200 < (n : Int)) = false := by simp; omega
  have HV := Lib.hid (values_any a n cap cs w h (by omega))
  have HE := Lib.hid (fun W (hW : Below w.heap.size w W) => encode_any a n cap cs W (h.below hW) (by omega))
  have H := Lib.hid h
  have hcase := returns_cases (cs := cs) (by omega)
  have HL := Lib.hid hlen
  clear h
  rcases hcase with ⟨c, hc, hv, he⟩ | ⟨vs, row, hv, he, hchr, hdec, hvl, hrl⟩
  · rw [hv] at HV
    rw [he] at HE
    have hc1 : (c != c) = false := by simp
    have hc2 : (c != 0) = true := by simpa using hc
    clear hv he hlen hc
    go_enter Try.func6, Try.ntmps6
    go_wp2_with fail
    refine HV.out.mono ?_
    rintro e w1 hret
    obtain ⟨va, vc, rfl, r1, b1⟩ := hret.open
    clear hret r1
    go_wp2_with fail
    refine (HE.out _ b1).mono ?_
    rintro e w2 hret
    obtain ⟨ea, ec, rfl, r2, b2⟩ := hret.open
    clear hret r2
    replace b2 := below_tr b1 b2
    go_wp2_with fail
    refine (alive_any _).mono ?_
    rintro e w3 ⟨rfl, b3⟩
    replace b3 := below_tr b2 b3
    go_wp2
    go_ret
    exact ⟨rfl, b3⟩
  · rw [hv] at HV
    rw [he] at HE
    rw [hlen] at hvl
    have HCH := Lib.hid hchr; have HDE := Lib.hid hdec
    clear hv he hlen hchr hdec
    go_enter Try.func6, Try.ntmps6
    go_wp2_with fail
    refine HV.out.mono ?_
    rintro e w1 hret
    obtain ⟨va, vc, rfl, r1, vc1, vc2, b1⟩ := hret.open3
    clear hret
    go_wp2_with fail
    refine (HE.out _ b1).mono ?_
    rintro e w2 hret
    obtain ⟨ea, ec, rfl, r2, b2⟩ := hret.open
    clear hret
    replace r1 := r1.below b2
    replace b2 := below_tr b1 b2
    have HC := Lib.hid (chars_any va _ vc vs w2 r1 (by omega) vc1 vc2)
    rw [HCH.out] at HC
    have R2 := Lib.hid r2
    clear r1 r2
    go_wp2_with fail
    refine HC.out.mono ?_
    rintro e w3 hret
    obtain ⟨ca, cc, rfl, r3, b3⟩ := hret.open
    clear hret
    have r2 := R2.out.below b3
    replace b3 := below_tr b2 b3
    have HD := Lib.hid (decode_any ea _ ec row w3 r2 (by omega))
    rw [HDE.out] at HD
    have R3 := Lib.hid r3
    clear r2 R2 r3
    go_wp2_with fail
    refine HD.out.mono ?_
    rintro e w4 hret
    obtain ⟨da, dc, rfl, r4, b4⟩ := hret.open
    clear hret
    have r3 := R3.out.below b4
    replace b4 := below_tr b3 b4
    have HI := Lib.hid (ints_self ca a _ cc n cap cs w4 r3 (H.out.below b4))
    have R4 := Lib.hid r4
    clear r3 R3 r4
    simp only at *
    rw [HL.out] at *
    go_wp2_with fail
    refine HI.out.mono ?_
    rintro e w5 ⟨rfl, b5⟩
    have r4 := R4.out.below b5
    replace b5 := below_tr b4 b5
    have HI2 := Lib.hid (ints_self da a n dc n cap cs w5 r4 (H.out.below b5))
    clear r4 R4
    go_wp2_with fail
    refine HI2.out.mono ?_
    rintro e w6 ⟨rfl, b6⟩
    replace b6 := below_tr b5 b6
    have hle : decide ((vs.length : Int) ≤ 2 * (n : Int) + 3) = true := by simp; omega
    go_wp2_with fail
    refine (alive_any _).mono ?_
    rintro e w7 ⟨rfl, b7⟩
    replace b7 := below_tr b6 b7
    go_wp2
    go_ret
    exact ⟨rfl, b7⟩

end Go.Proofs.Ytofedeokliljkaa
