/-
  The walk of modes.Fits (over strings.IndexByte). Condition: the byte is one.
-/
import Derived.Test.YtifgpjhodajccaaWalkA
import Derived.Lib.Walk
import Derived.Lib.Bytealg
namespace Go.Proofs.Ytifgpjhodajccaa
open Go.RowKit

def alphA : Array UInt8 := #[48, 49, 50, 51, 52, 53, 54, 55, 56, 57, 65, 66, 67, 68, 69, 70, 71, 72, 73, 74, 75, 76, 77, 78, 79, 80, 81, 82, 83, 84, 85, 86, 87, 88, 89, 90, 32, 36, 37, 42, 43, 45, 46, 47, 58]

theorem alph_all : ∀ x : Nat, x < 256 → decide (0 ≤ Lib.indexByte alphA.toList (Int.toNat (x : Int)).toUInt8) = alnumB x := by decide +kernel

set_option maxHeartbeats 1000000 in
set_option maxRecDepth 100000 in
theorem liteIndexByte_any (s : ByteArray) (c : Int) (w : World) : Calls Try.prog 90 #[.string s, .int .u8 c] w fun e w' => e = .returned (.int .i64 (Lib.indexByte s.data.toList c.toNat.toUInt8)) ∧ w = w' := by
  go_enter Try.func90, Try.ntmps90
  go_wp2
  rw [run_callFunc_extern Try.func93 (by kernel_rfl) (by kernel_rfl) (by kernel_rfl) (e := Extern.BytealgIndexByte.indexByte) (by kernel_rfl), Lib.run_indexByteString]
  simp only [Result.andThen]
  rw [Oper.upon_value]
  go_wp2
  go_ret
  exact ⟨rfl, rfl⟩

set_option maxHeartbeats 1000000 in
theorem indexByte_any (s : ByteArray) (c : Int) (w : World) : Calls Try.prog 74 #[.string s, .int .u8 c] w fun e w' => e = .returned (.int .i64 (Lib.indexByte s.data.toList c.toNat.toUInt8)) ∧ w = w' := by
  go_enter Try.func74, Try.ntmps74
  go_wp2_with (go_at_call 90; refine (liteIndexByte_any _ _ _).mono ?_; rintro e w' ⟨rfl, rfl⟩)
  go_ret
  exact ⟨rfl, rfl⟩

set_option maxHeartbeats 1000000 in
set_option maxRecDepth 100000 in
theorem fits_any (m : Nat) (c : Int) (w : World) (hm : isMode m) (h0 : 0 ≤ c) (h1 : c < 256) : Calls Try.prog 48 #[.int .i64 m, .int .u8 c] w fun e w' => e = .returned (.bool (fitsM m c)) ∧ w = w' := by
  rcases hm with rfl | rfl | rfl
  · have HF : Hid (fitsM 1 c = decide (48 ≤ c ∧ c ≤ 57)) := rfl
    go_enter Try.func48, Try.ntmps48
    go_wp2
    all_goals
      go_ret
      refine ⟨ret_bool ?_, rfl⟩
      rw [HF.out]
      simp_all
      try omega
  · obtain ⟨x, rfl⟩ := Int.eq_ofNat_of_zero_le h0
    have hk := alph_all x (by omega)
    have HI := Lib.hid (fun W => indexByte_any ⟨alphA⟩ (x : Int) W)
    have HF : Hid (fitsM 2 (x : Int) = alnumB x) := rfl
    have e : (⟨alphA⟩ : ByteArray).data.toList = alphA.toList := rfl
    rw [e] at HI
    obtain ⟨r, hr⟩ : ∃ r, Lib.indexByte alphA.toList (Int.toNat (x : Int)).toUInt8 = r := ⟨_, rfl⟩
    rw [hr] at HI hk
    have HK := Lib.hid hk
    clear hk hr e
    go_enter Try.func48, Try.ntmps48
    go_wp2_with (go_at_call 74; refine (HI.out _).mono ?_; rintro e w' ⟨rfl, rfl⟩)
    go_ret
    refine ⟨ret_bool ?_, rfl⟩
    rw [HF.out, ← HK.out]
  · have HF : Hid (fitsM 4 c = true) := rfl
    go_enter Try.func48, Try.ntmps48
    go_wp2
    go_ret
    exact ⟨ret_bool HF.out.symm, rfl⟩

end Go.Proofs.Ytifgpjhodajccaa
