/-
  The walk of the statement Code128Decodes: it returns true. No condition.
-/
import Derived.Test.YtofedeokliljkaaWalkRc
import Derived.Test.YtofedeokliljkaaWalkAl
namespace Go.Proofs.Ytofedeokliljkaa
open Go.RowKit

set_option maxRecDepth 100000 in
set_option maxHeartbeats 8000000 in
theorem code128Decodes_walk (a : Option Addr) (n cap : Nat) (bs : List Bool) (w : World) (h : RdB w a n bs) :
    Calls Try.prog 5 #[.slice a n cap] w fun e w' => e = .returned (.bool true) ∧ Below w.heap.size w w' := by
  have hlen := h.length
  by_cases hn : 2500 < n
  · have hd : decide (2500 < (n : Int)) = true := by simp; omega
    clear hlen h
    go_enter Try.func5, Try.ntmps5
    go_wp2_with fail
    refine (alive_any _).mono ?_
    rintro e w1 ⟨rfl, hb⟩
    go_wp2
    go_ret
    exact ⟨rfl, hb⟩
  have hd : decide (2500 < (n : Int)) = false := by simp; omega
  have HC := Lib.hid (decode_any a n cap bs w h (by omega))
  have HR := Lib.hid (fun W (hW : Below w.heap.size w W) => refDecode_any a n cap bs W (h.below hW) (by omega))
  clear h hlen
  go_enter Try.func5, Try.ntmps5
  go_wp2_with fail
  refine HC.out.mono ?_
  rintro e w1 hret
  obtain ⟨ca, cc, rfl, r1, b1⟩ := hret.open
  clear hret HC
  go_wp2_with fail
  refine (HR.out _ b1).mono ?_
  rintro e w2 hret
  obtain ⟨da, dc, rfl, r2, b2⟩ := hret.open
  clear hret HR
  have HI := Lib.hid (ints_self ca da _ cc _ dc _ w2 (r1.below b2) r2)
  replace b2 := below_tr b1 b2
  clear r1 r2
  generalize decF bs = CF at *
  obtain ⟨cs, co⟩ := CF
  simp only at *
  have hcc : (co == co) = true := by simp
  go_wp2_with fail
  refine HI.out.mono ?_
  rintro e w3 ⟨rfl, b3⟩
  replace b3 := below_tr b2 b3
  go_wp2_with fail
  refine (alive_any _).mono ?_
  rintro e wq ⟨rfl, bq⟩
  replace bq := below_tr b3 bq
  go_wp2
  go_ret
  exact ⟨rfl, bq⟩

end Go.Proofs.Ytofedeokliljkaa
