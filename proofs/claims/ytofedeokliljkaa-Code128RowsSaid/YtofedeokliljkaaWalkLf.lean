/-
  The walk of the statement Code128Rows: it returns true. No condition.
-/
import Derived.Test.YtofedeokliljkaaWalkRi
import Derived.Test.YtofedeokliljkaaWalkAl
namespace Go.Proofs.Ytofedeokliljkaa
open Go.RowKit

set_option maxRecDepth 100000 in
set_option maxHeartbeats 8000000 in
theorem code128Rows_walk (x : Int) (a : Option Addr) (n cap : Nat) (cs : List Int) (w : World) (h : RdI w a n cs) :
    Calls Try.prog 4 #[.int .i64 x, .slice a n cap] w fun e w' => e = .returned (.bool true) ∧ Below w.heap.size w w' := by
  by_cases hn : 100 < n
  · have hd : decide (100 < (n : Int)) = true := by simp; omega
    clear h
    go_enter Try.func4, Try.ntmps4
    go_wp2_with fail
    refine (alive_any _).mono ?_
    rintro e w1 ⟨rfl, hb⟩
    go_wp2
    go_ret
    exact ⟨rfl, hb⟩
  have hd : decide (100 < (n : Int)) = false := by simp; omega
  have HC := Lib.hid (fun W (hW : Below w.heap.size w W) => encode_any a n cap cs W (h.below hW) (by omega))
  have HR := Lib.hid (fun W (hW : Below w.heap.size w W) => refEncode_any a n cap cs W (h.below hW) (by omega))
  have HP := Lib.hid (fun W => pattern_any x W)
  have HP2 := Lib.hid (fun W => refPattern_any x W)
  clear h
  go_enter Try.func4, Try.ntmps4
  go_wp2_with fail
  refine (HP.out _).mono ?_
  rintro e w1 hret
  obtain ⟨ca, cc, rfl, r1, b1⟩ := hret.open
  clear hret HP
  go_wp2_with fail
  refine (HP2.out _).mono ?_
  rintro e w2 hret
  obtain ⟨da, dc, rfl, r2, b2⟩ := hret.open
  clear hret HP2
  replace r1 := r1.below b2
  replace b2 := below_tr b1 b2
  go_wp2_with fail
  refine (HC.out _ b2).mono ?_
  rintro e w3 hret
  obtain ⟨ea, ec, rfl, r3, b3⟩ := hret.open
  clear hret HC
  replace r1 := r1.below b3
  replace r2 := r2.below b3
  replace b3 := below_tr b2 b3
  go_wp2_with fail
  refine (HR.out _ b3).mono ?_
  rintro e w4 hret
  obtain ⟨fa, fc, rfl, r4, b4⟩ := hret.open
  clear hret HR
  have HI := Lib.hid (ints_self ca da _ cc _ dc _ w4 (r1.below b4) (r2.below b4))
  have HS := Lib.hid (fun W (hW : Below w4.heap.size w4 W) => same_self ea fa _ ec _ fc _ W ((r3.below b4).below hW) (r4.below hW))
  replace b4 := below_tr b3 b4
  clear r1 r2 r3 r4
  generalize encodeF cs = CF at *
  obtain ⟨xs, co⟩ := CF
  generalize patF x = KF at *
  obtain ⟨ks, ko⟩ := KF
  simp only at *
  have hcc : (co == co) = true := by simp
  have hcc3 : (ko == ko) = true := by simp
  go_wp2_with fail
  refine HI.out.mono ?_
  rintro e w5 ⟨rfl, b5⟩
  go_wp2_with fail
  refine (HS.out _ b5).mono ?_
  rintro e w6 ⟨rfl, b6⟩
  replace b6 := below_tr (below_tr b4 b5) b6
  go_wp2_with fail
  refine (alive_any _).mono ?_
  rintro e wq ⟨rfl, bq⟩
  replace bq := below_tr b6 bq
  go_wp2
  go_ret
  exact ⟨rfl, bq⟩

end Go.Proofs.Ytofedeokliljkaa
