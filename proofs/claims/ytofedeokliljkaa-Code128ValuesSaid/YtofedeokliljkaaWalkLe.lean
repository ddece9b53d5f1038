/-
  The walk of the statement Code128Values: it returns true. No condition.
-/
import Derived.Test.YtofedeokliljkaaWalkRh
import Derived.Test.YtofedeokliljkaaWalkAl
namespace Go.Proofs.Ytofedeokliljkaa
open Go.RowKit

set_option maxRecDepth 100000 in
set_option maxHeartbeats 8000000 in
theorem code128Values_walk (a : Option Addr) (n cap : Nat) (cs : List Int) (b : Option Addr) (m mcap : Nat) (vs : List Int) (w : World) (h : RdI w a n cs) (h2 : RdI w b m vs) :
    Calls Try.prog 8 #[.slice a n cap, .slice b m mcap] w fun e w' => e = .returned (.bool true) ∧ Below w.heap.size w w' := by
  by_cases hn : 200 < n
  · have hd : decide (200 < (n : Int)) = true := by simp; omega
    clear h h2
    go_enter Try.func8, Try.ntmps8
    go_wp2_with fail
    refine (alive_any _).mono ?_
    rintro e w1 ⟨rfl, hb⟩
    go_wp2
    go_ret
    exact ⟨rfl, hb⟩
  have hd : decide (200 < (n : Int)) = false := by simp; omega
  by_cases hm : 200 < m
  · have hd2 : decide (200 < (m : Int)) = true := by simp; omega
    clear h h2
    go_enter Try.func8, Try.ntmps8
    go_wp2_with fail
    refine (alive_any _).mono ?_
    rintro e w1 ⟨rfl, hb⟩
    go_wp2
    go_ret
    exact ⟨rfl, hb⟩
  have hd2 : decide (200 < (m : Int)) = false := by simp; omega
  have HC := Lib.hid (values_any a n cap cs w h (by omega))
  have HR := Lib.hid (fun W (hW : Below w.heap.size w W) => refValues_any a n cap cs W (h.below hW) (by omega))
  have HK := Lib.hid (fun W (hW : Below w.heap.size w W) => check_any b m mcap vs W (h2.below hW) (by omega))
  have HK2 := Lib.hid (fun W (hW : Below w.heap.size w W) => refCheck_any b m mcap vs W (h2.below hW) (by omega))
  clear h h2
  go_enter Try.func8, Try.ntmps8
  go_wp2_with fail
  refine HC.out.mono ?_
  rintro e w1 hret
  obtain ⟨ca, cc, rfl, r1, b1⟩ := hret.open
  clear hret HC
  go_wp2_with fail
  refine (HR.out _ b1).mono ?_
  rintro e w2 hret
  obtain ⟨da, dc, rfl, r2, b2⟩ := hret.open
  clear hret HR
  have HI := Lib.hid (ints_self ca da _ cc _ dc _ w2 (r1.below b2) r2)
  replace b2 := below_tr b1 b2
  clear r1 r2
  generalize valuesF cs = CF at *
  obtain ⟨xs, co⟩ := CF
  generalize checkF vs = KF at *
  obtain ⟨ks, ko⟩ := KF
  simp only at *
  have hcc : (co == co) = true := by simp
  have hcc2 : (ks == ks) = true := by simp
  have hcc3 : (ko == ko) = true := by simp
  go_wp2_with fail
  refine (HK.out _ b2).mono ?_
  rintro e w3 ⟨rfl, rfl⟩
  go_wp2_with fail
  refine (HK2.out _ b2).mono ?_
  rintro e w4 ⟨rfl, rfl⟩
  go_wp2_with fail
  refine HI.out.mono ?_
  rintro e w5 ⟨rfl, b3⟩
  replace b3 := below_tr b2 b3
  go_wp2_with fail
  refine (alive_any _).mono ?_
  rintro e wq ⟨rfl, bq⟩
  replace bq := below_tr b3 bq
  go_wp2
  go_ret
  exact ⟨rfl, bq⟩

end Go.Proofs.Ytofedeokliljkaa
