/-
  The walks of Parity, of the program and of the reference, and of modes.Join. No condition.
-/
import Derived.Test.YtifgpjhodajccaaWalkL
namespace Go.Proofs.Ytifgpjhodajccaa
open Go.RowKit

theorem xor8 (a b : Nat) (ha : a < 256) (hb : b < 256) : bits .xor .u8 (a : Int) (b : Int) = ((a ^^^ b : Nat) : Int) := by
  have hx : a ^^^ b < 2 ^ 8 := Nat.xor_lt_two_pow (by omega) (by omega)
  have h1 : (BitVec.ofInt 8 (a : Int)).toNat = a := by
    rw [BitVec.ofInt_natCast, BitVec.toNat_ofNat]; exact Nat.mod_eq_of_lt (by omega)
  have h2 : (BitVec.ofInt 8 (b : Int)).toNat = b := by
    rw [BitVec.ofInt_natCast, BitVec.toNat_ofNat]; exact Nat.mod_eq_of_lt (by omega)
  show IntKind.u8.wrap ((BitVec.ofInt 8 (a : Int) ^^^ BitVec.ofInt 8 (b : Int)).toNat : Int) = _
  rw [BitVec.toNat_xor, h1, h2]
  have hw : ∀ n : Int, IntKind.u8.wrap n = n % 256 := fun n => by simp [IntKind.wrap, IntKind.bits, IntKind.signed]
  rw [hw]
  omega
theorem xor64 (a b : Nat) (ha : a < 256) (hb : b < 256) : bits .xor .i64 (a : Int) (b : Int) = ((a ^^^ b : Nat) : Int) := by
  have hx : a ^^^ b < 2 ^ 8 := Nat.xor_lt_two_pow (by omega) (by omega)
  have h1 : (BitVec.ofInt 64 (a : Int)).toNat = a := by
    rw [BitVec.ofInt_natCast, BitVec.toNat_ofNat]; exact Nat.mod_eq_of_lt (by omega)
  have h2 : (BitVec.ofInt 64 (b : Int)).toNat = b := by
    rw [BitVec.ofInt_natCast, BitVec.toNat_ofNat]; exact Nat.mod_eq_of_lt (by omega)
  show IntKind.i64.wrap ((BitVec.ofInt 64 (a : Int) ^^^ BitVec.ofInt 64 (b : Int)).toNat : Int) = _
  rw [BitVec.toNat_xor, h1, h2, IntKind.wrap_i64]
  omega

/-- The parity of bytes. -/
def parF : List Int → Nat → Nat
  | [], s => s
  | c :: r, s => parF r (s ^^^ c.toNat)

set_option maxRecDepth 100000 in
set_option maxHeartbeats 4000000 in
theorem parity_any (a : Option Addr) (n cap : Nat) (bs : List Int) (w : World) (h : RdU w a n bs) (hby : ∀ b ∈ bs, 0 ≤ b ∧ b < 256) (hn : n ≤ 1000000) :
    Calls Try.prog 8 #[.slice a n cap] w fun e w' => e = .returned (.int .i64 (parF bs 0 : Nat)) ∧ w = w' := by
  have H := Lib.hid h; have HL := Lib.hid h.length; have HBY := Lib.hid hby
  clear h hby
  go_enter Try.func8, Try.ntmps8
  go_wp2_with fail
  go_loop [3, 8] (fun p x => ∃ (k s : Nat), k ≤ n ∧ x = .int .i64 k ∧ p = .int .u8 s ∧ s < 256 ∧ Hid (parF (bs.drop k) s = parF bs 0)) (fun _ x => n - (Lib.intOf x).toNat)
  case atStart => exact ⟨0, 0, by omega, rfl, rfl, by omega, rfl⟩
  case round =>
    obtain ⟨k, s, hk, rfl, rfl, s1, hP⟩ := hrel
    by_cases hlt : k < n
    · obtain ⟨b, off, c, rfl, hcell, hd⟩ := H.out.at k hlt
      have hcb := HBY.out c (List.mem_of_getElem? (getElem?_of_drop hd))
      obtain ⟨c, rfl⟩ := Int.eq_ofNat_of_zero_le hcb.1
      have hx := xor8 s c s1 (by omega)
      have hxl : s ^^^ c < 256 := by have : s ^^^ c < 2 ^ 8 := Nat.xor_lt_two_pow (by omega) (by omega); omega
      have hp2 : parF (bs.drop (k + 1)) (s ^^^ c) = parF bs 0 := by rw [← hP.out, hd, parF, Int.toNat_natCast]
      have HP2 := Lib.hid hp2
      clear hp2 hd hP hcb
      go_wp2
      go_round
      case rel => exact ⟨k + 1, s ^^^ c, by omega, by go_num, rfl, hxl, HP2⟩
      case measure => simp [Lib.intOf]; omega
    · have hv : parF bs 0 = s := by rw [← hP.out, drop_all (by rw [HL.out]; omega)]; rfl
      have HV := Lib.hid hv
      clear hv hP
      go_wp2
      go_ret
      exact ⟨by rw [HV.out]; rfl, rfl⟩

set_option maxRecDepth 100000 in
set_option maxHeartbeats 4000000 in
theorem refParity_any (a : Option Addr) (n cap : Nat) (bs : List Int) (w : World) (h : RdU w a n bs) (hby : ∀ b ∈ bs, 0 ≤ b ∧ b < 256) (hn : n ≤ 1000000) :
    Calls Try.prog 9 #[.slice a n cap] w fun e w' => e = .returned (.int .i64 (parF bs 0 : Nat)) ∧ w = w' := by
  have H := Lib.hid h; have HL := Lib.hid h.length; have HBY := Lib.hid hby
  clear h hby
  go_enter Try.func9, Try.ntmps9
  go_wp2_with fail
  go_loop [3, 4] (fun p x => ∃ (k s : Nat), k ≤ n ∧ x = .int .i64 k ∧ p = .int .i64 s ∧ s < 256 ∧ Hid (parF (bs.drop k) s = parF bs 0)) (fun _ x => n - (Lib.intOf x).toNat)
  case atStart => exact ⟨0, 0, by omega, rfl, rfl, by omega, rfl⟩
  case round =>
    obtain ⟨k, s, hk, rfl, rfl, s1, hP⟩ := hrel
    by_cases hlt : k < n
    · obtain ⟨b, off, c, rfl, hcell, hd⟩ := H.out.at k hlt
      have hcb := HBY.out c (List.mem_of_getElem? (getElem?_of_drop hd))
      obtain ⟨c, rfl⟩ := Int.eq_ofNat_of_zero_le hcb.1
      have hc1 : c < 256 := by omega
      have hx := xor64 s c s1 hc1
      have hxl : s ^^^ c < 256 := by have : s ^^^ c < 2 ^ 8 := Nat.xor_lt_two_pow (by omega) (by omega); omega
      have hp2 : parF (bs.drop (k + 1)) (s ^^^ c) = parF bs 0 := by rw [← hP.out, hd, parF, Int.toNat_natCast]
      have HP2 := Lib.hid hp2
      clear hp2 hd hP hcb
      go_wp2
      go_round
      case rel => exact ⟨k + 1, s ^^^ c, by omega, by go_num, rfl, hxl, HP2⟩
      case measure => simp [Lib.intOf]; omega
    · have hv : parF bs 0 = s := by rw [← hP.out, drop_all (by rw [HL.out]; omega)]; rfl
      have HV := Lib.hid hv
      clear hv hP
      go_wp2
      go_ret
      exact ⟨by rw [HV.out]; rfl, rfl⟩

end Go.Proofs.Ytifgpjhodajccaa
