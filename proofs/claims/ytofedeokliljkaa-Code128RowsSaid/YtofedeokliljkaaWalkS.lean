/-
  The walk of widths of package code128: the widths of a value. No condition.
-/
import Derived.Test.YtofedeokliljkaaWalkP
namespace Go.Proofs.Ytofedeokliljkaa
open Go.RowKit

def patB : ByteArray := ⟨#[50, 49, 50, 50, 50, 50, 50, 50, 50, 49, 50, 50, 50, 50, 50, 50, 50, 49, 49, 50, 49, 50, 50, 51, 49, 50, 49, 51, 50, 50, 49, 51, 49, 50, 50, 50, 49, 50, 50, 50, 49, 51, 49, 50, 50, 51, 49, 50, 49, 51, 50, 50, 49, 50, 50, 50, 49, 50, 49, 51, 50, 50, 49, 51, 49, 50, 50, 51, 49, 50, 49, 50, 49, 49, 50, 50, 51, 50, 49, 50, 50, 49, 51, 50, 49, 50, 50, 50, 51, 49, 49, 49, 51, 50, 50, 50, 49, 50, 51, 49, 50, 50, 49, 50, 51, 50, 50, 49, 50, 50, 51, 50, 49, 49, 50, 50, 49, 49, 51, 50, 50, 50, 49, 50, 51, 49, 50, 49, 51, 50, 49, 50, 50, 50, 51, 49, 49, 50, 51, 49, 50, 49, 51, 49, 51, 49, 49, 50, 50, 50, 51, 50, 49, 49, 50, 50, 51, 50, 49, 50, 50, 49, 51, 49, 50, 50, 49, 50, 51, 50, 50, 49, 49, 50, 51, 50, 50, 50, 49, 49, 50, 49, 50, 49, 50, 51, 50, 49, 50, 51, 50, 49, 50, 51, 50, 49, 50, 49, 49, 49, 49, 51, 50, 51, 49, 51, 49, 49, 50, 51, 49, 51, 49, 51, 50, 49, 49, 49, 50, 51, 49, 51, 49, 51, 50, 49, 49, 51, 49, 51, 50, 51, 49, 49, 50, 49, 49, 51, 49, 51, 50, 51, 49, 49, 49, 51, 50, 51, 49, 51, 49, 49, 49, 49, 50, 49, 51, 51, 49, 49, 50, 51, 51, 49, 49, 51, 50, 49, 51, 49, 49, 49, 51, 49, 50, 51, 49, 49, 51, 51, 50, 49, 49, 51, 51, 49, 50, 49, 51, 49, 51, 49, 50, 49, 50, 49, 49, 51, 51, 49, 50, 51, 49, 49, 51, 49, 50, 49, 51, 49, 49, 51, 50, 49, 51, 51, 49, 49, 50, 49, 51, 49, 51, 49, 51, 49, 49, 49, 50, 51, 51, 49, 49, 51, 50, 49, 51, 51, 49, 49, 50, 49, 51, 49, 50, 49, 49, 51, 51, 49, 50, 51, 49, 49, 51, 51, 50, 49, 49, 49, 51, 49, 52, 49, 49, 49, 50, 50, 49, 52, 49, 49, 52, 51, 49, 49, 49, 49, 49, 49, 49, 50, 50, 52, 49, 49, 49, 52, 50, 50, 49, 50, 49, 49, 50, 52, 49, 50, 49, 52, 50, 49, 49, 52, 49, 49, 50, 50, 49, 52, 49, 50, 50, 49, 49, 49, 50, 50, 49, 52, 49, 49, 50, 52, 49, 50, 49, 50, 50, 49, 49, 52, 49, 50, 50, 52, 49, 49, 49, 52, 50, 49, 49, 50, 49, 52, 50, 50, 49, 49, 50, 52, 49, 50, 49, 49, 50, 50, 49, 49, 49, 52, 52, 49, 51, 49, 49, 49, 50, 52, 49, 49, 49, 50, 49, 51, 52, 49, 49, 49, 49, 49, 49, 50, 52, 50, 49, 50, 49, 49, 52, 50, 49, 50, 49, 50, 52, 49, 49, 49, 52, 50, 49, 50, 49, 50, 52, 49, 49, 50, 49, 50, 52, 50, 49, 49, 52, 49, 49, 50, 49, 50, 52, 50, 49, 49, 49, 50, 52, 50, 49, 50, 49, 49, 50, 49, 50, 49, 52, 49, 50, 49, 52, 49, 50, 49, 52, 49, 50, 49, 50, 49, 49, 49, 49, 49, 52, 51, 49, 49, 49, 51, 52, 49, 49, 51, 49, 49, 52, 49, 49, 49, 52, 49, 49, 51, 49, 49, 52, 51, 49, 49, 52, 49, 49, 49, 49, 51, 52, 49, 49, 51, 49, 49, 49, 49, 51, 49, 52, 49, 49, 49, 52, 49, 51, 49, 51, 49, 49, 49, 52, 49, 52, 49, 49, 49, 51, 49, 50, 49, 49, 52, 49, 50, 50, 49, 49, 50, 49, 52, 50, 49, 49, 50, 51, 50]⟩

def patL (v : Nat) : List UInt8 := ((patB.extract (v * 6) ((v + 1) * 6)).data).toList

/-- The widths of a value. -/
def widL (v : Nat) : List Int := if v = 106 then [2, 3, 3, 1, 1, 1, 2] else (patL v).map (fun b => (b.toNat : Int) - 48)

set_option maxRecDepth 100000 in
theorem patL_ok : ∀ v, v < 106 → (patL v).length = 6 ∧ (patL v).all (fun b => decide (49 ≤ b.toNat) && decide (b.toNat ≤ 52)) = true := by decide +kernel

theorem six_bytes (S : ByteArray) (L : List UInt8) (h : S.data.toList = L) (hl : L.length = 6) (ha : L.all (fun b => decide (49 ≤ b.toNat) && decide (b.toNat ≤ 52)) = true) :
    ∃ b0 b1 b2 b3 b4 b5 : UInt8, S = ⟨#[b0, b1, b2, b3, b4, b5]⟩ ∧ L = [b0, b1, b2, b3, b4, b5] ∧ (49 ≤ b0.toNat ∧ b0.toNat ≤ 52) ∧ (49 ≤ b1.toNat ∧ b1.toNat ≤ 52) ∧ (49 ≤ b2.toNat ∧ b2.toNat ≤ 52) ∧ (49 ≤ b3.toNat ∧ b3.toNat ≤ 52) ∧ (49 ≤ b4.toNat ∧ b4.toNat ≤ 52) ∧ (49 ≤ b5.toNat ∧ b5.toNat ≤ 52) := by
  match L, hl with
  | [b0, b1, b2, b3, b4, b5], _ =>
    refine ⟨b0, b1, b2, b3, b4, b5, ?_, rfl, ?_⟩
    · obtain ⟨⟨l⟩⟩ := S
      simp at h
      rw [h]
    · simp at ha
      exact ⟨ha.1, ha.2.1, ha.2.2.1, ha.2.2.2.1, ha.2.2.2.2.1, ha.2.2.2.2.2⟩

set_option maxRecDepth 100000 in
set_option maxHeartbeats 4000000 in
theorem widths_low (v : Nat) (w : World) (h : v ≤ 105) : Calls Try.prog 29 #[.int .i64 v] w (RetL (widL v) w) := by
  have hb : (((v : Int)) != 106) = true := by rw [bne_iff_ne]; omega
  have hsz : min ((v + 1) * 6) 636 - v * 6 = 6 := by omega
  have hmk : ∀ w, (Instr.makeSlice 22 (.int .i64 6) (.int .i64 6)).run Try.prog w = .ok (.slice (some ⟨w.heap.size, 0, none⟩) 6 6) (w.alloc (.cells #[.int .i64 0, .int .i64 0, .int .i64 0, .int .i64 0, .int .i64 0, .int .i64 0] 3)) := fun _ => by kernel_rfl
  have hwl : widL v = (patL v).map (fun b => (b.toNat : Int) - 48) := by unfold widL; rw [if_neg (by omega)]
  have HW := Lib.hid hwl; clear hwl
  obtain ⟨hl, ha⟩ := patL_ok v (by omega)
  have hs6 := six_bytes (ByteArray.extract ⟨#[50, 49, 50, 50, 50, 50, 50, 50, 50, 49, 50, 50, 50, 50, 50, 50, 50, 49, 49, 50, 49, 50, 50, 51, 49, 50, 49, 51, 50, 50, 49, 51, 49, 50, 50, 50, 49, 50, 50, 50, 49, 51, 49, 50, 50, 51, 49, 50, 49, 51, 50, 50, 49, 50, 50, 50, 49, 50, 49, 51, 50, 50, 49, 51, 49, 50, 50, 51, 49, 50, 49, 50, 49, 49, 50, 50, 51, 50, 49, 50, 50, 49, 51, 50, 49, 50, 50, 50, 51, 49, 49, 49, 51, 50, 50, 50, 49, 50, 51, 49, 50, 50, 49, 50, 51, 50, 50, 49, 50, 50, 51, 50, 49, 49, 50, 50, 49, 49, 51, 50, 50, 50, 49, 50, 51, 49, 50, 49, 51, 50, 49, 50, 50, 50, 51, 49, 49, 50, 51, 49, 50, 49, 51, 49, 51, 49, 49, 50, 50, 50, 51, 50, 49, 49, 50, 50, 51, 50, 49, 50, 50, 49, 51, 49, 50, 50, 49, 50, 51, 50, 50, 49, 49, 50, 51, 50, 50, 50, 49, 49, 50, 49, 50, 49, 50, 51, 50, 49, 50, 51, 50, 49, 50, 51, 50, 49, 50, 49, 49, 49, 49, 51, 50, 51, 49, 51, 49, 49, 50, 51, 49, 51, 49, 51, 50, 49, 49, 49, 50, 51, 49, 51, 49, 51, 50, 49, 49, 51, 49, 51, 50, 51, 49, 49, 50, 49, 49, 51, 49, 51, 50, 51, 49, 49, 49, 51, 50, 51, 49, 51, 49, 49, 49, 49, 50, 49, 51, 51, 49, 49, 50, 51, 51, 49, 49, 51, 50, 49, 51, 49, 49, 49, 51, 49, 50, 51, 49, 49, 51, 51, 50, 49, 49, 51, 51, 49, 50, 49, 51, 49, 51, 49, 50, 49, 50, 49, 49, 51, 51, 49, 50, 51, 49, 49, 51, 49, 50, 49, 51, 49, 49, 51, 50, 49, 51, 51, 49, 49, 50, 49, 51, 49, 51, 49, 51, 49, 49, 49, 50, 51, 51, 49, 49, 51, 50, 49, 51, 51, 49, 49, 50, 49, 51, 49, 50, 49, 49, 51, 51, 49, 50, 51, 49, 49, 51, 51, 50, 49, 49, 49, 51, 49, 52, 49, 49, 49, 50, 50, 49, 52, 49, 49, 52, 51, 49, 49, 49, 49, 49, 49, 49, 50, 50, 52, 49, 49, 49, 52, 50, 50, 49, 50, 49, 49, 50, 52, 49, 50, 49, 52, 50, 49, 49, 52, 49, 49, 50, 50, 49, 52, 49, 50, 50, 49, 49, 49, 50, 50, 49, 52, 49, 49, 50, 52, 49, 50, 49, 50, 50, 49, 49, 52, 49, 50, 50, 52, 49, 49, 49, 52, 50, 49, 49, 50, 49, 52, 50, 50, 49, 49, 50, 52, 49, 50, 49, 49, 50, 50, 49, 49, 49, 52, 52, 49, 51, 49, 49, 49, 50, 52, 49, 49, 49, 50, 49, 51, 52, 49, 49, 49, 49, 49, 49, 50, 52, 50, 49, 50, 49, 49, 52, 50, 49, 50, 49, 50, 52, 49, 49, 49, 52, 50, 49, 50, 49, 50, 52, 49, 49, 50, 49, 50, 52, 50, 49, 49, 52, 49, 49, 50, 49, 50, 52, 50, 49, 49, 49, 50, 52, 50, 49, 50, 49, 49, 50, 49, 50, 49, 52, 49, 50, 49, 52, 49, 50, 49, 52, 49, 50, 49, 50, 49, 49, 49, 49, 49, 52, 51, 49, 49, 49, 51, 52, 49, 49, 51, 49, 49, 52, 49, 49, 49, 52, 49, 49, 51, 49, 49, 52, 51, 49, 49, 52, 49, 49, 49, 49, 51, 52, 49, 49, 51, 49, 49, 49, 49, 51, 49, 52, 49, 49, 49, 52, 49, 51, 49, 51, 49, 49, 49, 52, 49, 52, 49, 49, 49, 51, 49, 50, 49, 49, 52, 49, 50, 50, 49, 49, 50, 49, 52, 50, 49, 49, 50, 51, 50]⟩ (v * 6) ((v + 1) * 6)) (patL v) rfl hl ha
  have HS := Lib.hid hs6; clear hs6 hl ha
  go_enter Try.func29, Try.ntmps29
  go_wp2
  obtain ⟨b0, b1, b2, b3, b4, b5, hS, hL, h0, h1, h2, h3, h4, h5⟩ := HS.out
  rw [hS]
  have HL := Lib.hid hL
  clear HS hS hL
  obtain ⟨x0, y0⟩ := h0
  obtain ⟨x1, y1⟩ := h1
  obtain ⟨x2, y2⟩ := h2
  obtain ⟨x3, y3⟩ := h3
  obtain ⟨x4, y4⟩ := h4
  obtain ⟨x5, y5⟩ := h5
  refine wp_loop_rounds 7 ?_
  iterate 7 (rw [rounds_succ]; go_wp2)
  go_ret
  refine ⟨_, rfl, own_congr (own_new w [.int .i64 (((b0.toNat : Int) - 48) % 256), .int .i64 (((b1.toNat : Int) - 48) % 256), .int .i64 (((b2.toNat : Int) - 48) % 256), .int .i64 (((b3.toNat : Int) - 48) % 256), .int .i64 (((b4.toNat : Int) - 48) % 256), .int .i64 (((b5.toNat : Int) - 48) % 256)] 6 (Nat.le_refl _) rfl (by unfold maxLen; omega)) (by rw [HW.out, HL.out]; rfl) ?_, (Below.refl _ _).alloc (Nat.le_refl _) _⟩
  rw [HW.out, HL.out]
  simp only [List.map_cons, List.map_nil, List.cons.injEq, Value.int.injEq, true_and, and_true]
  omega

set_option maxRecDepth 100000 in
set_option maxHeartbeats 4000000 in
theorem widths_stop (w : World) : Calls Try.prog 29 #[.int .i64 106] w (RetL (widL 106) w) := by
  have hmk : ∀ w, (Instr.makeSlice 22 (.int .i64 7) (.int .i64 7)).run Try.prog w = .ok (.slice (some ⟨w.heap.size, 0, none⟩) 7 7) (w.alloc (.cells #[.int .i64 0, .int .i64 0, .int .i64 0, .int .i64 0, .int .i64 0, .int .i64 0, .int .i64 0] 3)) := fun _ => by kernel_rfl
  have HW : Hid (widL 106 = [2, 3, 3, 1, 1, 1, 2]) := rfl
  go_enter Try.func29, Try.ntmps29
  go_wp2
  refine wp_loop_rounds 8 ?_
  iterate 8 (rw [rounds_succ]; go_wp2)
  go_ret
  rw [HW.out]
  exact ⟨_, rfl, own_new w [.int .i64 2, .int .i64 3, .int .i64 3, .int .i64 1, .int .i64 1, .int .i64 1, .int .i64 2] 7 (Nat.le_refl _) rfl (by unfold maxLen; omega), (Below.refl _ _).alloc (Nat.le_refl _) _⟩

theorem cw_any (x : Int) (v : Nat) (hx : x = v) (hv : v ≤ 106) (w : World) : Calls Try.prog 29 #[.int .i64 x] w (RetL (widL v) w) := by
  subst hx
  by_cases h : v = 106
  · subst h; exact widths_stop w
  · exact widths_low v w (by omega)

theorem widL_len (v : Nat) (hv : v ≤ 106) : (widL v).length = if v = 106 then 7 else 6 := by
  unfold widL
  split
  · rfl
  · rw [List.length_map]; exact (patL_ok v (by omega)).1

theorem RetL.open {xs : List Int} {w w' : World} {e : Ending} (h : RetL xs w e w') : ∃ a cap, e = .returned (.slice a xs.length cap) ∧ RdI w' a xs.length xs ∧ Below w.heap.size w w' := by
  obtain ⟨v, rfl, hown, hb⟩ := h
  obtain ⟨a, cap, rfl, hrd⟩ := own_rd hown
  exact ⟨a, cap, rfl, hrd, hb⟩

def patF (x : Int) : List Int × Int := if x < 0 ∨ 106 < x then ([], 3) else (widL x.toNat, 0)

theorem retI_nil' (c : Int) (w : World) : RetI [] c w (.returned (.tuple #[.slice none 0 0, .int .i64 c])) w := ⟨_, rfl, World.ownsRow_nil _ _ _ _, Below.refl _ _⟩

set_option maxHeartbeats 800000 in
theorem pattern_any (x : Int) (w : World) : Calls Try.prog 15 #[.int .i64 x] w (RetI (patF x).1 (patF x).2 w) := by
  by_cases h0 : x < 0
  · have hm : patF x = ([], 3) := by unfold patF; rw [if_pos (by omega)]
    have hd : decide (x < 0) = true := by simpa using h0
    rw [hm]
    clear hm
    go_enter Try.func15, Try.ntmps15
    go_wp2
    go_ret2
    exact retI_nil' 3 w
  have hd : decide (x < 0) = false := by simpa using h0
  by_cases h1 : 106 < x
  · have hm : patF x = ([], 3) := by unfold patF; rw [if_pos (by omega)]
    have hd : decide (106 < x) = true := by simpa using h1
    rw [hm]
    clear hm
    go_enter Try.func15, Try.ntmps15
    go_wp2
    go_ret2
    exact retI_nil' 3 w
  have hd1 : decide (106 < x) = false := by simpa using h1
  have hm : patF x = (widL x.toNat, 0) := by unfold patF; rw [if_neg (by omega)]
  rw [hm]
  clear hm
  go_enter Try.func15, Try.ntmps15
  go_wp2_with fail
  refine (cw_any _ x.toNat (by omega) (by omega) _).mono ?_
  rintro e w1 ⟨v, rfl, hown, hb⟩
  go_wp2
  go_ret2
  exact ⟨v, rfl, hown, hb⟩

end Go.Proofs.Ytofedeokliljkaa
