/-
  The walk of the statement SplitCuts: it returns true. No condition.
-/
import Derived.Test.YtifgpjhodajccaaRefH
import Derived.Test.YtifgpjhodajccaaWalkV
namespace Go.Proofs.Ytifgpjhodajccaa
open Go.RowKit

set_option maxRecDepth 100000 in
set_option maxHeartbeats 8000000 in
theorem splitCuts_walk (a : Option Addr) (n cap : Nat) (bs : List Int) (ver l : Int) (w : World) (h : RdU w a n bs) (hby : ∀ b ∈ bs, 0 ≤ b ∧ b < 256) (hcap : n ≤ cap) (hcap2 : cap ≤ 9223372036854775807)
    (_hv : -9223372036854775808 ≤ ver ∧ ver ≤ 9223372036854775807) (_hl : -9223372036854775808 ≤ l ∧ l ≤ 9223372036854775807) :
    Calls Try.prog 4 #[.slice a n cap, .int .i64 ver, .int .i64 l] w fun e w' => e = .returned (.bool true) ∧ Below w.heap.size w w' := by
  by_cases hbig : 120 < n
  · have q0 : decide (120 < (n : Int)) = true := decide_eq_true (by omega)
    go_enter Try.func4, Try.ntmps4
    go_wp2_with fail
    refine (example_any _).mono ?_
    rintro e w2 ⟨rfl, b2⟩
    go_wp2
    go_ret
    exact ⟨rfl, b2⟩
  have q0 : decide (120 < (n : Int)) = false := decide_eq_false (by omega)
  have J1 := Lib.hid (cuts_any a n cap ver l bs w h hby hcap hcap2)
  have J2 := Lib.hid (fun W (hW : Below w.heap.size w W) => refCuts_any a n cap ver l bs W (h.below hW) hby (by omega) hcap hcap2)
  clear h hby
  generalize cutsF bs ver l = cf at *
  obtain ⟨xs, er⟩ := cf
  simp only at J1 J2
  go_enter Try.func4, Try.ntmps4
  go_wp2_with fail
  refine J1.out.mono ?_
  rintro e w2 hret
  obtain ⟨a2, cap2, rfl, r2, d2⟩ := hret.open
  have R2 := Lib.hid r2
  clear hret r2 J1
  go_wp2_with fail
  refine (J2.out _ d2).mono ?_
  rintro e w3 hret
  obtain ⟨a3, cap3, rfl, r3, d3⟩ := hret.open
  have S1 := Lib.hid (same_any a2 a3 xs.length cap2 xs.length cap3 xs xs w3 (R2.out.below d3) r3)
  rw [show decide (xs = xs) = true from by simp] at S1
  replace d3 := below_tr d2 d2.size d3
  clear hret r3 J2 R2 d2
  go_wp2_with fail
  refine S1.out.mono ?_
  rintro e w6 ⟨rfl, d6⟩
  replace d6 := below_tr d3 d3.size d6
  clear S1 d3
  go_wp2_with fail
  refine (example_any _).mono ?_
  rintro e w7 ⟨rfl, d7⟩
  replace d7 := below_tr d6 d6.size d7
  go_wp2
  go_ret
  exact ⟨rfl, d7⟩

end Go.Proofs.Ytifgpjhodajccaa
