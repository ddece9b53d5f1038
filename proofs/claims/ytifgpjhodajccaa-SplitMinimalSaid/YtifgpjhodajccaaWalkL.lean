/-
  The walk of split.Cuts. Condition: the slice's length is at most its capacity.
-/
import Derived.Test.YtifgpjhodajccaaWalkK
namespace Go.Proofs.Ytifgpjhodajccaa
open Go.RowKit

/-- The length of the next part. -/
def cutN (rs : List Int) (ver l : Nat) : Nat := searchF (fun i => !fitsF (rs.take (i + 1)) ver l 20) rs.length 0 rs.length

theorem cutN_le (rs : List Int) (ver l : Nat) : cutN rs ver l ≤ rs.length := searchF_le _ _ _ _ (Nat.zero_le _)

/-- The parts of the rest. -/
def cutsL (ver l : Nat) : Nat → List Int → List Int → List Int × Int
  | 0, _, _ => ([], 16)
  | f + 1, rs, acc => if rs.length = 0 then (acc, 0) else if cutN rs ver l = 0 ∨ acc.length = 16 then ([], 16) else cutsL ver l f (rs.drop (cutN rs ver l)) (acc ++ [(cutN rs ver l : Int)])

/-- What Cuts computes. -/
def cutsF (bs : List Int) (ver l : Int) : List Int × Int :=
  if ver < 1 ∨ 40 < ver then ([], 14) else if l < 1 ∨ 4 < l then ([], 15) else if 4096 < bs.length then ([], 4)
  else if fitsF bs ver.toNat l.toNat 0 = true then ([(bs.length : Int)], 0) else cutsL ver.toNat l.toNat (bs.length + 1) bs []

theorem retI_nil2 (c : Int) (w w' : World) (h : Below w.heap.size w w') : RetI [] c w (.returned (.tuple #[.slice none 0 0, .int .i64 c])) w' := ⟨_, rfl, World.ownsRow_nil _ _ _ _, h⟩

theorem info3 : (Try.prog.info? 3).map (fun i => (i.zero, i.size, i.bytes)) = some (some (.int .i64 0), 1, 8) := by kernel_rfl

theorem own_type_ne {w : World} {B e s n b t : Nat} {v : Value} {xs : List Value} {c : Array Value} {fr : Nat × Nat} (h : w.ownsRow B e s v n xs) (hb : w.heap[b]? = some (.cells c t fr)) (ht : t ≠ e) : v.ownBlock ≠ some b := by
  rcases h.2 with ⟨rfl, _⟩ | ⟨g, cap, cur, rfl, _, hg, _⟩
  · simp [Value.ownBlock]
  · intro e
    have e' : g = b := by simpa [Value.ownBlock] using e
    rw [e', hb] at hg
    cases hg
    exact ht rfl

theorem own_setCell {w : World} {B e s n : Nat} {v : Value} {xs : List Value} (h : w.ownsRow B e s v n xs) (a : Addr) (hne : v.ownBlock ≠ some a.block) (u : Value) : (w.setCell a u).ownsRow B e s v n xs := by
  obtain ⟨h1, h2⟩ := h
  refine ⟨h1, ?_⟩
  rcases h2 with h2 | ⟨g, cap, cur, rfl, e2, hg, e3⟩
  · exact .inl h2
  · refine .inr ⟨g, cap, cur, rfl, e2, (Below.heap_setCell _ _ _ _ ?_).trans hg, e3⟩
    intro e; subst e; exact hne rfl

theorem box_new (w : World) (a : Addr) (u x : Value) (t : TypeId) : ((w.setCell a u).alloc (.cells #[x] t)).heap[w.heap.size]? = some (.cells #[x] t (0, 0)) := by
  have := World.alloc_heap_new (w.setCell a u) (.cells #[x] t)
  rwa [show (w.setCell a u).heap.size = w.heap.size by simp [World.setCell]] at this

set_option maxRecDepth 100000 in
set_option maxHeartbeats 8000000 in
theorem cuts_any (a : Option Addr) (n cap : Nat) (ver l : Int) (bs : List Int) (w : World) (h : RdU w a n bs) (hby : ∀ b ∈ bs, 0 ≤ b ∧ b < 256) (hcap : n ≤ cap) (hcap2 : cap ≤ 9223372036854775807) :
    Calls Try.prog 11 #[.slice a n cap, .int .i64 ver, .int .i64 l] w (RetI (cutsF bs ver l).1 (cutsF bs ver l).2 w) := by
  have H := Lib.hid h; have HL := Lib.hid h.length; have HBY := Lib.hid hby
  clear h hby
  have hBx : Below w.heap.size w ((w.alloc (.cells #[.int .i64 ver] 3)).alloc (.cells #[.int .i64 l] 30)) := ((Below.refl _ w).alloc (Nat.le_refl _) _).alloc (by simp) _
  have hcf : cutsF bs ver l = if ver < 1 ∨ 40 < ver then ([], 14) else if l < 1 ∨ 4 < l then ([], 15) else if 4096 < n then ([], 4)
      else if fitsF bs ver.toNat l.toNat 0 = true then ([(n : Int)], 0) else cutsL ver.toNat l.toNat (n + 1) bs [] := by unfold cutsF; rw [HL.out]
  by_cases hv1 : ver < 1
  · have hd : decide (ver < 1) = true := by simpa using hv1
    rw [if_pos (.inl hv1)] at hcf
    rw [hcf]
    go_enter Try.func11, Try.ntmps11
    go_wp2
    go_ret2
    exact retI_nil2 _ _ _ hBx
  by_cases hv2 : 40 < ver
  · have hd : decide (ver < 1) = false := by simpa using hv1
    have hd2 : decide (40 < ver) = true := by simpa using hv2
    rw [if_pos (.inr hv2)] at hcf
    rw [hcf]
    go_enter Try.func11, Try.ntmps11
    go_wp2
    go_ret2
    exact retI_nil2 _ _ _ hBx
  rw [if_neg (by omega)] at hcf
  obtain ⟨ve, rfl⟩ := Int.eq_ofNat_of_zero_le (show 0 ≤ ver by omega)
  have hd1 : decide ((ve : Int) < 1) = false := by simpa using hv1
  have hd2 : decide (40 < (ve : Int)) = false := by simpa using hv2
  by_cases hl1 : l < 1
  · have hd : decide (l < 1) = true := by simpa using hl1
    rw [if_pos (.inl hl1)] at hcf
    rw [hcf]
    go_enter Try.func11, Try.ntmps11
    go_wp2
    go_ret2
    exact retI_nil2 _ _ _ hBx
  by_cases hl2 : 4 < l
  · have hd : decide (l < 1) = false := by simpa using hl1
    have hd2 : decide (4 < l) = true := by simpa using hl2
    rw [if_pos (.inr hl2)] at hcf
    rw [hcf]
    go_enter Try.func11, Try.ntmps11
    go_wp2
    go_ret2
    exact retI_nil2 _ _ _ hBx
  rw [if_neg (by omega)] at hcf
  obtain ⟨le, rfl⟩ := Int.eq_ofNat_of_zero_le (show 0 ≤ l by omega)
  have hd3 : decide ((le : Int) < 1) = false := by simpa using hl1
  have hd4 : decide (4 < (le : Int)) = false := by simpa using hl2
  by_cases hlong : 4096 < n
  · have hd5 : decide (4096 < (n : Int)) = true := by simp; omega
    rw [if_pos hlong] at hcf
    rw [hcf]
    go_enter Try.func11, Try.ntmps11
    go_wp2
    go_ret2
    exact retI_nil2 _ _ _ hBx
  rw [if_neg hlong, Int.toNat_natCast, Int.toNat_natCast] at hcf
  have hd5 : decide (4096 < (n : Int)) = false := by simp; omega
  have HFI := Lib.hid (fun W (hW : Below w.heap.size w W) => splitFits_any a n cap ve le 0 bs W (H.out.below hW) HBY.out (by omega) (by omega) (by omega) (by omega) (by omega) hcap hcap2)
  by_cases hfit : fitsF bs ve le 0 = true
  · rw [if_pos hfit] at hcf
    rw [hcf]
    simp only [hfit] at HFI
    go_enter Try.func11, Try.ntmps11
    go_wp2_with fail
    refine (HFI.out _ hBx).mono ?_
    rintro e w5 ⟨rfl, hb5⟩
    have hB5 : Below w.heap.size w w5 := below_tr hBx hBx.size hb5
    go_wp2
    go_ret2
    exact ⟨_, rfl, own_new w5 [.int .i64 n] 1 hB5.size rfl (by unfold maxLen; omega), hB5.alloc hB5.size _⟩
  have hfit2 : fitsF bs ve le 0 = false := by simpa using hfit
  rw [if_neg hfit] at hcf
  simp only [hfit2] at HFI
  have HCF := Lib.hid hcf
  clear hcf hfit hfit2
  go_enter Try.func11, Try.ntmps11
  go_wp2_with fail
  refine (HFI.out _ hBx).mono ?_
  rintro e wb ⟨rfl, hb5⟩
  have hBb : Below w.heap.size w wb := below_tr hBx hBx.size hb5
  have c2 : wb.cell? ⟨w.heap.size, 0, none⟩ = some (.int .i64 ve) := by
    rw [hb5.cell (p := ⟨w.heap.size, 0, none⟩) (by simp; omega)]
    rw [World.cell?_alloc_lt _ _ _ (by simp)]
    exact cell_of_blk (World.alloc_heap_new w _) _ rfl
  have c3 : wb.cell? ⟨w.heap.size + 1, 0, none⟩ = some (.int .i64 le) := by
    rw [hb5.cell (p := ⟨w.heap.size + 1, 0, none⟩) (by simp)]
    have := World.alloc_heap_new (w.alloc (.cells #[.int .i64 ve] 3)) (.cells #[.int .i64 le] 30)
    rw [show (w.alloc (.cells #[.int .i64 ve] 3)).heap.size = w.heap.size + 1 by simp] at this
    exact cell_of_blk this _ rfl
  have hls : w.heap.size + 1 < wb.heap.size := by have := hb5.size; simp at this; omega
  clear hb5 HFI hBx
  go_wp2_with fail
  have hbox := World.alloc_heap_new wb (.cells #[.slice a n cap] 22)
  have hBx : Below wb.heap.size wb (wb.alloc (.cells #[.slice a n cap] 22)) := (Below.refl _ _).alloc (Nat.le_refl _) _
  go_loopg [8, 9] (n + 1) (fun r v x wr => ∃ (gr rn rc : Nat) (ra : Option Addr) (rs acc : List Int), x = .pointer (some ⟨gr, 0, none⟩) ∧ wr.heap[gr]? = some (.cells #[.slice ra rn rc] 22 (0, 0)) ∧ wb.heap.size ≤ gr ∧ rn ≤ rc ∧ rc ≤ 9223372036854775807 ∧ rn ≤ n ∧ rn + 1 ≤ r ∧ Hid (RdU w ra rn rs) ∧ Hid (∀ b ∈ rs, 0 ≤ b ∧ b < 256) ∧ wr.ownsRow wb.heap.size 3 1 v acc.length (acc.map (Value.int .i64)) ∧ acc.length ≤ 16 ∧ Below wb.heap.size wb wr ∧ Hid (cutsL ve le r rs acc = cutsL ve le (n + 1) bs []))
  case atStart => exact ⟨wb.heap.size, n, cap, a, bs, [], rfl, hbox, Nat.le_refl _, hcap, hcap2, Nat.le_refl _, Nat.le_refl _, H, HBY, World.ownsRow_nil _ _ _ _, by simp, hBx, rfl⟩
  case round =>
    clear hbox hBx
    obtain ⟨gr, rn, rc, ra, rs, acc, rfl, hbox, hgr, hrc, hrc2, hrn, hrk, hrd, hrb, hown, hacc, hB, hC⟩ := hrel
    have hrl := hrd.out.length
    have HRL := Lib.hid hrl
    have hBw : Below w.heap.size w wr := hBb.trans (hB.mono hBb.size)
    have hbc := cell_of_blk (j := 0) hbox _ rfl
    have hlg : gr < wr.heap.size := (Array.getElem?_eq_some_iff.1 hbox).1
    obtain ⟨i3, hi3, hz3a, hz3b, hz3c⟩ := info_parts info3
    obtain ⟨g, hg⟩ : ∃ g, gk = g + 1 := ⟨gk - 1, by omega⟩
    subst hg
    by_cases hr0 : rn = 0
    · subst hr0
      have hres : cutsL ve le (n + 1) bs [] = (acc, 0) := by
        rw [← hC.out, cutsL, if_pos (by rw [HRL.out])]
      have HRES := Lib.hid hres
      clear hres hrl
      go_wp2_with fail
      go_ret2
      rw [HCF.out, HRES.out]
      refine ⟨_, rfl, own_base hown hBb.size, hBw⟩
    · have hst : cutsL ve le (g + 1) rs acc = if cutN rs ve le = 0 ∨ acc.length = 16 then ([], 16) else cutsL ve le g (rs.drop (cutN rs ve le)) (acc ++ [(cutN rs ve le : Int)]) := by
        rw [cutsL, if_neg (by rw [HRL.out]; exact hr0)]
      have hcn := cutN_le rs ve le
      rw [HRL.out] at hcn
      have hd2 : wr.cell? ⟨w.heap.size, 0, none⟩ = some (.int .i64 ve) := (hB.cell (p := ⟨w.heap.size, 0, none⟩) (by show w.heap.size < _; omega)).trans c2
      have hd3 : wr.cell? ⟨w.heap.size + 1, 0, none⟩ = some (.int .i64 le) := (hB.cell (p := ⟨w.heap.size + 1, 0, none⟩) (by show w.heap.size + 1 < _; omega)).trans c3
      have hse := search_any rn (fun i => !fitsF (rs.take (i + 1)) ve le 20) (.pointer (some ⟨gr, 0, none⟩)) (.pointer (some ⟨w.heap.size, 0, none⟩)) (.pointer (some ⟨w.heap.size + 1, 0, none⟩)) wr (by omega)
        (fun i hi W hW => closure_any ra rn rc ve le i gr w.heap.size (w.heap.size + 1) rs W (hrd.out.below (hBw.trans (hW.mono hBw.size))) hrb.out (by omega) (by omega) hi (by omega) hrc hrc2
          ((hW.cell (p := ⟨gr, 0, none⟩) hlg).trans hbc) ((hW.cell (p := ⟨w.heap.size, 0, none⟩) (by show w.heap.size < _; have := hB.size; omega)).trans hd2) ((hW.cell (p := ⟨w.heap.size + 1, 0, none⟩) (by show w.heap.size + 1 < _; have := hB.size; omega)).trans hd3))
      have hcne : searchF (fun i => !fitsF (rs.take (i + 1)) ve le 20) rn 0 rn = cutN rs ve le := by unfold cutN; rw [HRL.out]
      rw [hcne] at hse
      obtain ⟨cn, hcnn⟩ : ∃ cn, cutN rs ve le = cn := ⟨_, rfl⟩
      rw [hcnn] at hse hst hcn
      have HSE := Lib.hid hse
      have HST := Lib.hid hst
      have hr0' : decide (0 < (rn : Int)) = true := by simp; omega
      clear hse hst hcne hcnn hrl
      obtain ⟨va, vc, rfl, _⟩ := own_rd hown
      obtain ⟨b, off, z, rfl, _, _⟩ := hrd.out.at 0 (by omega)
      go_wp2_with fail
      refine HSE.out.mono ?_
      rintro e w5 ⟨rfl, hb5⟩
      have hown5 := own_below hown hb5
      have hbox5 := (hb5.block gr hlg).trans hbox
      have hB5 : Below wb.heap.size wb w5 := below_tr hB hB.size hb5
      have hB5s := hB5.size
      have hlg5 : gr < w5.heap.size := Nat.lt_of_lt_of_le hlg hb5.size
      clear hown hbox hbc hB hb5 HSE hd2 hd3
      by_cases hc0 : cn = 0
      · subst hc0
        have hres : cutsL ve le (n + 1) bs [] = ([], 16) := by rw [← hC.out, HST.out, if_pos (.inl rfl)]
        have HRES := Lib.hid hres
        clear hres
        go_wp2
        go_ret2
        rw [HCF.out, HRES.out]
        exact retI_nil2 _ _ _ (hBb.trans (hB5.mono hBb.size))
      have hc0' : ((cn : Int) == 0) = false := by simp; omega
      by_cases ha16 : acc.length = 16
      · have hres : cutsL ve le (n + 1) bs [] = ([], 16) := by rw [← hC.out, HST.out, if_pos (.inr ha16)]
        have HRES := Lib.hid hres
        have h16 : ((acc.length : Int) == 16) = true := by simp; omega
        clear hres
        go_wp2
        go_ret2
        rw [HCF.out, HRES.out]
        exact retI_nil2 _ _ _ (hBb.trans (hB5.mono hBb.size))
      have h16 : ((acc.length : Int) == 16) = false := by simp; omega
      have hC2 : Hid (cutsL ve le g (rs.drop cn) (acc ++ [(cn : Int)]) = cutsL ve le (n + 1) bs []) := Lib.hid (by rw [← hC.out, HST.out, if_neg (by omega)])
      clear HST hC
      go_wp2_with (at_builtin; refine wpList_append_own _ rfl _ _ 26 rfl wb.heap.size 3 i3 (.int .i64 0) 1 8 Try.underlying26 hi3 hz3a hz3b hz3c rfl (by decide) _ _ _ rfl (hown5.alloc _) ⟨w5.heap.size, 0, none⟩ 1 1 [.int .i64 cn] rfl rfl (cell_one_new _ _ _) (by simp [Value.oneCell']) ?c3 ?c4 ?c5 ?_)
      case c3 => unfold maxLen; omega
      case c4 => omega
      case c5 => simp; omega
      intro v7 w7 hown7 hgrow7 _
      have hB7 := below_app3 hB5 hB5s hown5 hgrow7
      have hbox7 := (hgrow7.block gr (by simp; omega) (fun e => own_type_ne hown5 hbox5 (by decide) e.symm)).trans ((Below.heap_alloc _ _ _ hlg5).trans hbox5)
      have hlg7 : gr < w7.heap.size := (Array.getElem?_eq_some_iff.1 hbox7).1
      have hbc7 := cell_of_blk (j := 0) hbox7 _ rfl
      have hfz7 := froz_of_blk hbox7 0
      have q0 : (0 : Int) ≤ (cn : Int) := by omega
      have q1 : (cn : Int) ≤ (rn : Int) := by omega
      have q2 : (rn : Int) ≤ (rc : Int) := by omega
      have hne7 := own_type_ne hown7 hbox7 (by decide)
      have HB7 := Lib.hid hB7
      have HO7 := Lib.hid hown7
      clear hgrow7 hown5 hbox5 hB5 hlg5 hB7 hown7
      have hB7s := HB7.out.size
      have hrdd : Hid (0 < rn - cn → RdU w (some ⟨b, off + cn, none⟩) (rn - cn) (rs.drop cn)) := Lib.hid fun _ => by
        have := Rd.sub hrd.out cn (rn - cn) (by omega)
        rwa [List.take_of_length_le (by rw [List.length_drop, HRL.out]; exact Nat.le_refl _)] at this
      have hrd0 : Hid (∀ x, rn - cn = 0 → RdU w x (rn - cn) (rs.drop cn)) := Lib.hid fun x h0 => ⟨by simp [HRL.out], by omega, fun k hk => by omega⟩
      have hrb2 : Hid (∀ b ∈ rs.drop cn, 0 ≤ b ∧ b < 256) := Lib.hid fun b hb => hrb.out b (List.mem_of_mem_drop hb)
      go_wp2_with fail
      all_goals
        go_roundg g
        case rel =>
          refine ⟨w7.heap.size, rn - cn, _, _, rs.drop cn, acc ++ [(cn : Int)], rfl, box_new _ _ _ _ _, hB7s, ?_, ?_, by omega, by omega, ?_, hrb2, own_congr ((own_setCell HO7.out _ hne7 _).alloc _) (by simp) (by simp), by simp; omega, (HB7.out.setCell hgr _).alloc (by simp [World.setCell]; exact hB7s) _, hC2⟩
          · omega
          · omega
          · refine Lib.hid ?_
            by_cases h0 : rn - cn = 0
            · exact hrd0.out _ h0
            · first
              | exact hrdd.out (by omega)
              | (exfalso; omega)
        case measure => omega

end Go.Proofs.Ytifgpjhodajccaa
