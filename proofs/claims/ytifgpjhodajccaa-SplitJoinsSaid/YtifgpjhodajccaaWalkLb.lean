/-
  The walk of the statement SplitJoins: it returns true. No condition.
-/
import Derived.Test.YtifgpjhodajccaaWalkZ
import Derived.Test.YtifgpjhodajccaaWalkV
import Derived.Test.YtifgpjhodajccaaWalkW
namespace Go.Proofs.Ytifgpjhodajccaa
open Go.RowKit

set_option maxRecDepth 100000 in
set_option maxHeartbeats 8000000 in
theorem splitJoins_walk (a : Option Addr) (n cap : Nat) (ms : List Msg) (w : World) (h : RdM w a n ms) (hb : ∀ m ∈ ms, ∀ s ∈ m.1, ∀ b ∈ s.2, 0 ≤ b ∧ b < 256) :
    Calls Try.prog 5 #[.slice a n cap] w fun e w' => e = .returned (.bool true) ∧ Below w.heap.size w w' := by
  have HF := Lib.hid (few_any a n cap ms w h)
  have H := Lib.hid h
  have HB := Lib.hid hb
  have HL := Lib.hid h.len
  clear h hb
  go_enter Try.func5, Try.ntmps5
  go_wp2_with fail
  refine HF.out.mono ?_
  rintro e w1 ⟨⟨f, rfl, hf⟩, b1⟩
  cases f with
  | false =>
    go_wp2_with fail
    refine (example_any _).mono ?_
    rintro e w2 ⟨rfl, b2⟩
    go_wp2
    go_ret
    exact ⟨rfl, below_tr b1 b1.size b2⟩
  | true =>
    have hfew := hf rfl
    have HSH := Lib.hid (hfew.short HB.out)
    have hn40 : n ≤ 40 := by have := hfew.1; rw [HL.out] at this; exact this
    have RM := Lib.hid (H.out.below b1)
    have J1 := Lib.hid (join_any a n cap ms w1 RM.out (by omega) HSH.out)
    have J2 := Lib.hid (fun W (hW : Below w1.heap.size w1 W) => refJoin_any a n cap ms W (RM.out.below hW) hn40 HSH.out)
    have M1 := Lib.hid (fun W (hW : Below w1.heap.size w1 W) => missing_any a n cap ms W (RM.out.below hW) (by omega) HSH.out)
    have M2 := Lib.hid (fun W (hW : Below w1.heap.size w1 W) => refMissing_any a n cap ms W (RM.out.below hW) (by omega) HSH.out)
    obtain ⟨Jf, hJf⟩ : ∃ Jf, joinF ms = Jf := ⟨_, rfl⟩
    obtain ⟨Mf, hMf⟩ : ∃ Mf, missF ms = Mf := ⟨_, rfl⟩
    obtain ⟨Jc, Jl⟩ := Jf
    obtain ⟨Mc, Ml⟩ := Mf
    rw [hJf] at J1
    simp only [hJf] at J1 J2
    simp only [hMf] at M1 M2
    clear hf hfew HF HB hJf hMf H HL
    go_wp2_with fail
    refine J1.out.mono ?_
    rintro e w2 hret
    obtain ⟨a2, cap2, rfl, r2, d2⟩ := hret.open
    have R2 := Lib.hid r2
    clear hret r2 J1
    go_wp2_with fail
    refine (J2.out _ d2).mono ?_
    rintro e w3 ⟨a3, cap3, rfl, r3, d3⟩
    have R2' := Lib.hid (R2.out.below d3)
    replace d3 := below_tr d2 d2.size d3
    have R3 := Lib.hid r3
    clear r3 J2 R2 d2
    go_wp2_with fail
    refine (M1.out _ d3).mono ?_
    rintro e w4 hret
    obtain ⟨a4, cap4, rfl, r4, d4⟩ := hret.open
    have R2'' := Lib.hid (R2'.out.below d4)
    have R3' := Lib.hid (R3.out.below d4)
    replace d4 := below_tr d3 d3.size d4
    have R4 := Lib.hid r4
    clear hret r4 M1 R2' R3 d3
    go_wp2_with fail
    refine (M2.out _ d4).mono ?_
    rintro e w5 hret
    obtain ⟨a5, cap5, rfl, r5, d5⟩ := hret.open
    have cv1 := conv_any cap2 (R2''.out.below d5)
    have cv2 := conv_any cap3 (R3'.out.below d5)
    have S1 := Lib.hid (same_any a4 a5 Ml.length cap4 Ml.length cap5 Ml Ml w5 (R4.out.below d5) r5)
    rw [show decide (Ml = Ml) = true from by simp] at S1
    replace d5 := below_tr d4 d4.size d5
    clear hret r5 M2 R2'' R3' R4 d4
    go_wp2_with fail
    refine S1.out.mono ?_
    rintro e w6 ⟨rfl, d6⟩
    replace d6 := below_tr d5 d5.size d6
    clear S1 cv1 cv2 d5
    go_wp2_with fail
    refine (example_any _).mono ?_
    rintro e w7 ⟨rfl, d7⟩
    replace d7 := below_tr d6 d6.size d7
    go_wp2
    go_ret
    exact ⟨rfl, below_tr b1 b1.size d7⟩

end Go.Proofs.Ytifgpjhodajccaa
