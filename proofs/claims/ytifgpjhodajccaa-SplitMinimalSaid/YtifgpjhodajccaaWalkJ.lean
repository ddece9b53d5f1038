/-
  The walks of qrversion's shares, Capacity, Smallest, and of split's fits. Condition: the slice's length is at most its capacity.
-/
import Derived.Test.YtifgpjhodajccaaWalkI
namespace Go.Proofs.Ytifgpjhodajccaa
open Go.RowKit

theorem row_bnd : ∀ v : Nat, v < 41 → ∀ j : Nat, j < 10 → 0 ≤ (rowT v).getD j 0 ∧ (rowT v).getD j 0 ≤ 4000 := by decide +kernel

set_option maxHeartbeats 1000000 in
theorem exists_any (v : Nat) (w : World) (h1 : 1 ≤ v) (h2 : v ≤ 40) : Calls Try.prog 78 #[.int .i64 v] w fun e w' => e = .returned (.bool true) ∧ w = w' := by
  have d1 : decide ((1 : Int) ≤ (v : Int)) = true := by simp; omega
  have d2 : decide ((v : Int) ≤ 40) = true := by simp; omega
  go_enter Try.func78, Try.ntmps78
  go_wp2
  go_ret
  exact ⟨rfl, rfl⟩

set_option maxRecDepth 100000 in
set_option maxHeartbeats 4000000 in
theorem shares_any (v l : Nat) (w : World) (h1 : 1 ≤ v) (h2 : v ≤ 40) (l1 : 1 ≤ l) (l2 : l ≤ 4) :
    Calls Try.prog 52 #[.int .i64 v, .int .i64 l] w fun e w' => (∃ x y, e = .returned (.tuple #[.int .i64 (capF v l), .int .i64 x, .int .i64 y, .int .i64 0])) ∧ Below w.heap.size w w' := by
  have HR := Lib.hid (fun W => row_any v W h1 h2)
  have HE := Lib.hid (fun W => exists_any v W h1 h2)
  obtain ⟨p, rfl⟩ : ∃ p, v = p + 1 := ⟨v - 1, by omega⟩
  have hlen := len_row p (by omega)
  have hb := row_bnd (p + 1) (by omega)
  have hcf : capF (p + 1) l = (rowT (p + 1)).getD 0 0 - (rowT (p + 1)).getD (2 * l) 0 * (rowT (p + 1)).getD (2 * l + 1) 0 := rfl
  obtain ⟨r, hr⟩ : ∃ r, rowT (p + 1) = r := ⟨_, rfl⟩
  rw [hr] at hlen hb hcf
  simp only [hr] at HR
  have HCF := Lib.hid hcf
  have b0 := hb 0 (by omega)
  have b1 := hb (2 * l) (by omega)
  have b2 := hb (2 * l + 1) (by omega)
  have hm : r.getD (2 * l) 0 * r.getD (2 * l + 1) 0 ≤ 4000 * 4000 := Int.mul_le_mul b1.2 b2.2 b2.1 (by omega)
  have hm0 : 0 ≤ r.getD (2 * l) 0 * r.getD (2 * l + 1) 0 := Int.mul_nonneg b1.1 b2.1
  have hlist : ∃ x0 x1 x2 x3 x4 x5 x6 x7 x8 x9, r = [x0, x1, x2, x3, x4, x5, x6, x7, x8, x9] := by
    match r, hlen with
    | [x0, x1, x2, x3, x4, x5, x6, x7, x8, x9], _ => exact ⟨x0, x1, x2, x3, x4, x5, x6, x7, x8, x9, rfl⟩
  clear hcf hb
  rcases (show l = 1 ∨ l = 2 ∨ l = 3 ∨ l = 4 by omega) with rfl | rfl | rfl | rfl
  all_goals
    obtain ⟨x0, x1, x2, x3, x4, x5, x6, x7, x8, x9, rfl⟩ := hlist
    simp at b0 b1 b2 hm hm0
    go_enter Try.func52, Try.ntmps52
    go_wp2_with (go_at_call 78; refine (HE.out _).mono ?_; rintro e w' ⟨rfl, rfl⟩)
    refine (HR.out _).mono ?_
    rintro e w5 ⟨rfl, hb5⟩
    go_wp2_with fail
    go_quiet (fail)
    go_wp2_with fail
    refine bodyPost_ret (v := .tuple #[.int .i64 _, .int .i64 _, .int .i64 _, .int .i64 0]) (by simp [results, Try.results52, go_sem]; exact ⟨rfl, rfl, rfl⟩) rfl ?_
    refine ⟨⟨_, _, by rw [HCF.out]; rfl⟩, below_drewN ((show Below w.heap.size w w5 from ⟨hb5.os, hb5.tape, hb5.output, hb5.size, hb5.block⟩).alloc hb5.size _) _⟩

set_option maxRecDepth 100000 in
set_option maxHeartbeats 4000000 in
theorem capacity_any (v l : Nat) (w : World) (h1 : 1 ≤ v) (h2 : v ≤ 40) (l1 : 1 ≤ l) (l2 : l ≤ 4) :
    Calls Try.prog 42 #[.int .i64 v, .int .i64 l] w fun e w' => e = .returned (.tuple #[.int .i64 (capF v l), .int .i64 0]) ∧ Below w.heap.size w w' := by
  have HS := Lib.hid (fun W => shares_any v l W h1 h2 l1 l2)
  go_enter Try.func42, Try.ntmps42
  go_wp2_with fail
  refine (HS.out _).mono ?_
  rintro e w5 ⟨⟨x, y, rfl⟩, hb5⟩
  go_wp2
  go_ret2
  exact ⟨rfl, hb5⟩

def classN (v : Nat) : Nat := if v ≤ 9 then 0 else if v ≤ 26 then 1 else 2
theorem classN_lt (v : Nat) : classN v < 3 := by unfold classN; (repeat' split) <;> omega

/-- Smallest, from a version on. -/
def smallF (bs : List Int) (l : Nat) (extra : Int) : Nat → Nat → Int × Int
  | 0, _ => (0, 16)
  | f + 1, v => if extra ≤ 8 * capF v l - bitsF (classN v) bs then ((v : Int), 0) else smallF bs l extra f (v + 1)

theorem cap_bnd : ∀ v : Nat, v < 41 → ∀ l : Nat, l < 5 → -100000000 ≤ capF v l ∧ capF v l ≤ 4000 := by decide +kernel

theorem bits_bnd {cl : Nat} (hc : cl < 3) (bs : List Int) (hn : bs.length ≤ 4096) : 0 ≤ bitsF cl bs ∧ bitsF cl bs ≤ 200000 := by
  have h := (bstF_ok hc bs (by omega) bs.length (Nat.le_refl _)).2.1 0 (by omega) (Nat.zero_le _)
  rw [Nat.sub_self] at h
  unfold okPl at h
  unfold bitsF
  omega

set_option maxRecDepth 100000 in
set_option maxHeartbeats 4000000 in
theorem smallest_any (a : Option Addr) (n cap l : Nat) (ex : Int) (bs : List Int) (w : World) (h : RdU w a n bs) (hby : ∀ b ∈ bs, 0 ≤ b ∧ b < 256) (l1 : 1 ≤ l) (l2 : l ≤ 4) (x0 : 0 ≤ ex) (x1 : ex ≤ 1000) (hn : n ≤ 4096) (hcap : n ≤ cap) (hcap2 : cap ≤ 9223372036854775807) :
    Calls Try.prog 31 #[.slice a n cap, .int .i64 l, .int .i64 ex] w fun e w' => (∃ sv, e = .returned (.tuple #[.int .i64 (smallF bs l ex 40 1).1, sv, .int .i64 (smallF bs l ex 40 1).2])) ∧ Below w.heap.size w w' := by
  have HL := Lib.hid h.length
  have HB := Lib.hid (fun (cl : Nat) (hc : cl < 3) W (hW : Below w.heap.size w W) => best_any a n cap cl bs W (h.below hW) hby hc hn hcap hcap2)
  have HCP := Lib.hid (fun (v : Nat) (h1 : 1 ≤ v) (h2 : v ≤ 40) W => capacity_any v l W h1 h2 l1 l2)
  have HCL := Lib.hid (fun (v : Nat) (h1 : 1 ≤ v) (h2 : v ≤ 40) W => class_any v W h1 h2)
  clear h hby
  have d1 : decide ((l : Int) < 1) = false := by simp; omega
  have d2 : decide (4 < (l : Int)) = false := by simp; omega
  go_enter Try.func31, Try.ntmps31
  go_wp2_with fail
  go_loopg [9, 11, 12] 40 (fun r la sz x wr => ∃ (v : Nat) (L : Int) (S : Int), v + r = 41 ∧ 1 ≤ v ∧ x = .int .i64 v ∧ la = .int .i64 L ∧ sz = .int .i64 S ∧ (L = -1 ∨ ∃ c : Nat, c < 3 ∧ L = c ∧ Hid (S = bitsF c bs)) ∧ Hid (smallF bs l ex r v = smallF bs l ex 40 1) ∧ Below w.heap.size w wr)
  case atStart => exact ⟨1, -1, 0, rfl, Nat.le_refl _, rfl, rfl, rfl, .inl rfl, rfl, Below.refl _ _⟩
  case round =>
    obtain ⟨v, L, S, hv, hv1, rfl, rfl, rfl, hLS, hR, hB⟩ := hrel
    cases gk with
    | zero =>
      have hv41 : v = 41 := by omega
      subst hv41
      clear HB HCP HCL
      go_wp2_with fail
      refine bodyPost_ret (results_tmp3 rfl _ _ _) rfl ?_
      rw [← hR.out]
      exact ⟨⟨_, rfl⟩, hB⟩
    | succ f =>
      have hcl := HCL.out v hv1 (by omega)
      have hcn : ((if v ≤ 9 then 0 else if v ≤ 26 then 1 else 2 : Nat)) = classN v := rfl
      rw [hcn] at hcl
      have hc3 := classN_lt v
      have hst : smallF bs l ex (f + 1) v = if ex ≤ 8 * capF v l - bitsF (classN v) bs then ((v : Int), 0) else smallF bs l ex f (v + 1) := rfl
      have hcb := cap_bnd v (by omega) l (by omega)
      have hbb := bits_bnd hc3 bs (by rw [HL.out]; exact hn)
      obtain ⟨c, hc⟩ : ∃ c, classN v = c := ⟨_, rfl⟩
      rw [hc] at hcl hc3 hst hbb
      have HC := Lib.hid hcl
      have HST := Lib.hid hst
      have hvi : decide ((v : Int) ≤ 40) = true := by simp; omega
      clear hcl hst hcn hc
      by_cases hLc : L = (c : Int)
      · have hS : Hid (S = bitsF c bs) := by
          rcases hLS with h1 | ⟨c', hc', h1, h2⟩
          · omega
          · have : c' = c := by omega
            subst this; exact h2
        subst hLc
        have hne : ((c : Int) != (c : Int)) = false := by simp
        clear hLS HB
        go_wp2_with fail
        refine (HC.out _).mono ?_
        rintro e w' ⟨rfl, rfl⟩
        have HCPv := Lib.hid (HCP.out v hv1 (by omega))
        obtain ⟨C, hC⟩ : ∃ C, capF v l = C := ⟨_, rfl⟩
        simp only [hC] at HCPv
        have hcb2 := hcb
        rw [hC] at hcb2
        have hst2 := HST.out
        rw [hC] at hst2
        obtain ⟨Bt, hBt⟩ : ∃ Bt, bitsF c bs = Bt := ⟨_, rfl⟩
        rw [hBt] at hst2 hbb
        have hSB : Bt = S := by rw [hS.out, hBt]
        subst hSB
        have HST2 := Lib.hid hst2
        clear hst2 hC hcb HCP HCL HC
        go_wp2_with fail
        refine (HCPv.out _).mono ?_
        rintro e w7 ⟨rfl, hb7⟩
        have hB7 : Below w.heap.size w w7 := below_tr hB (hB).size hb7
        by_cases hfit : ex ≤ 8 * C - Bt
        · have hdf : decide (ex ≤ 8 * C - Bt) = true := by simpa using hfit
          go_wp2_with fail
          refine bodyPost_ret (results_tmp3 rfl _ _ _) rfl ?_
          rw [← hR.out, HST2.out, if_pos (by omega)]
          exact ⟨⟨_, rfl⟩, hB7⟩
        · have hdf : decide (ex ≤ 8 * C - Bt) = false := by simpa using hfit
          go_wp2_with fail
          go_roundg f
          case rel => exact ⟨v + 1, c, Bt, by omega, by omega, by go_num, rfl, rfl, .inr ⟨c, hc3, rfl, Lib.hid hBt.symm⟩, by rw [← hR.out, HST2.out, if_neg (by omega)]; rfl, hB7⟩
          case measure => omega
      · have hne : ((c : Int) != L) = true := by simp; omega
        have HBc := Lib.hid (HB.out c hc3 wr hB)
        clear hLS HB
        go_wp2_with fail
        refine (HC.out _).mono ?_
        rintro e w' ⟨rfl, rfl⟩
        go_wp2_with fail
        refine HBc.out.mono ?_
        rintro e w6 ⟨sv, rfl, hb6⟩
        have hB6 : Below w.heap.size w w6 := below_tr hB hB.size hb6
        clear HBc
        have HCPv := Lib.hid (HCP.out v hv1 (by omega))
        obtain ⟨C, hC⟩ : ∃ C, capF v l = C := ⟨_, rfl⟩
        simp only [hC] at HCPv
        have hcb2 := hcb
        rw [hC] at hcb2
        have hst2 := HST.out
        rw [hC] at hst2
        obtain ⟨Bt, hBt⟩ : ∃ Bt, bitsF c bs = Bt := ⟨_, rfl⟩
        rw [hBt] at hst2 hbb
        try rw [hBt]
        have HST2 := Lib.hid hst2
        clear hst2 hC hcb HCP HCL HC
        go_wp2_with fail
        refine (HCPv.out _).mono ?_
        rintro e w7 ⟨rfl, hb7⟩
        have hB7 : Below w.heap.size w w7 := below_tr hB6 (hB6).size hb7
        by_cases hfit : ex ≤ 8 * C - Bt
        · have hdf : decide (ex ≤ 8 * C - Bt) = true := by simpa using hfit
          go_wp2_with fail
          refine bodyPost_ret (results_tmp3 rfl _ _ _) rfl ?_
          rw [← hR.out, HST2.out, if_pos (by omega)]
          exact ⟨⟨_, rfl⟩, hB7⟩
        · have hdf : decide (ex ≤ 8 * C - Bt) = false := by simpa using hfit
          go_wp2_with fail
          go_roundg f
          case rel => exact ⟨v + 1, c, Bt, by omega, by omega, by go_num, rfl, rfl, .inr ⟨c, hc3, rfl, Lib.hid hBt.symm⟩, by rw [← hR.out, HST2.out, if_neg (by omega)]; rfl, hB7⟩
          case measure => omega

/-- Does a part fit? -/
def fitsF (bs : List Int) (ver l : Nat) (ex : Int) : Bool := decide ((smallF bs l ex 40 1).2 = 0) && decide ((smallF bs l ex 40 1).1 ≤ ver)

set_option maxRecDepth 100000 in
set_option maxHeartbeats 4000000 in
theorem splitFits_any (a : Option Addr) (n cap ver l : Nat) (ex : Int) (bs : List Int) (w : World) (h : RdU w a n bs) (hby : ∀ b ∈ bs, 0 ≤ b ∧ b < 256) (l1 : 1 ≤ l) (l2 : l ≤ 4) (x0 : 0 ≤ ex) (x1 : ex ≤ 1000) (hn : n ≤ 4096) (hcap : n ≤ cap) (hcap2 : cap ≤ 9223372036854775807) :
    Calls Try.prog 21 #[.slice a n cap, .int .i64 ver, .int .i64 l, .int .i64 ex] w fun e w' => e = .returned (.bool (fitsF bs ver l ex)) ∧ Below w.heap.size w w' := by
  have HS := Lib.hid (smallest_any a n cap l ex bs w h hby l1 l2 x0 x1 hn hcap hcap2)
  have HF : Hid (fitsF bs ver l ex = (decide ((smallF bs l ex 40 1).2 = 0) && decide ((smallF bs l ex 40 1).1 ≤ ver))) := rfl
  clear h hby
  generalize smallF bs l ex 40 1 = s at *
  obtain ⟨v, er⟩ := s
  simp only at HS HF
  go_enter Try.func21, Try.ntmps21
  go_wp2_with fail
  refine HS.out.mono ?_
  rintro e w5 ⟨⟨sv, rfl⟩, hb5⟩
  by_cases he : er = 0
  · subst he
    go_wp2
    go_ret
    refine ⟨ret_bool ?_, hb5⟩
    rw [HF.out]; simp
  · have hd : (er == 0) = false := by simpa using he
    go_wp2
    go_ret
    refine ⟨ret_bool ?_, hb5⟩
    rw [HF.out]; simp [he]

end Go.Proofs.Ytifgpjhodajccaa
