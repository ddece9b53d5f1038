/-
  The walk of the statement Code128Chars: it returns true. No condition.
-/
import Derived.Test.YtofedeokliljkaaWalkRb
import Derived.Test.YtofedeokliljkaaWalkLg
namespace Go.Proofs.Ytofedeokliljkaa
open Go.RowKit

set_option maxRecDepth 100000 in
set_option maxHeartbeats 8000000 in
theorem code128Chars_walk (a : Option Addr) (n cap : Nat) (vs : List Int) (w : World) (h : RdI w a n vs) (hc1 : n ≤ cap) (hc2 : cap ≤ 9223372036854775807) (hnil : a = none → n = 0 ∧ cap = 0) :
    Calls Try.prog 3 #[.slice a n cap] w fun e w' => e = .returned (.bool true) ∧ Below w.heap.size w w' := by
  have hlen := h.length
  by_cases hn : 200 < n
  · have hd : decide (200 < (n : Int)) = true := by simp; omega
    clear hlen h hnil
    go_enter Try.func3, Try.ntmps3
    go_wp2_with fail
    refine (alive_any _).mono ?_
    rintro e w1 ⟨rfl, hb⟩
    go_wp2
    go_ret
    exact ⟨rfl, hb⟩
  have hd : decide (200 < (n : Int)) = false := by simp; omega
  obtain ⟨i3, hi3, hz3a, hz3b, hz3c⟩ := info_parts info3
  have HC := Lib.hid (chars_any a n cap vs w h (by omega) hc1 hc2)
  have HR := Lib.hid (fun W (hW : Below w.heap.size w W) => refChars_any a n cap vs W (h.below hW) (by omega))
  have HK := Lib.hid (fun W (hW : Below w.heap.size w W) => refCheck_any a n cap vs W (h.below hW) (by omega))
  have H := Lib.hid h
  have HL := Lib.hid hlen
  have HN := Lib.hid hnil
  clear h hlen hnil
  go_enter Try.func3, Try.ntmps3
  go_wp2_with fail
  refine HC.out.mono ?_
  rintro e w1 hret
  obtain ⟨ca, cc, rfl, r1, b1⟩ := hret.open
  clear hret HC
  go_wp2_with fail
  refine (HR.out _ b1).mono ?_
  rintro e w2 hret
  obtain ⟨da, dc, rfl, r2, b2⟩ := hret.open
  clear hret HR
  have HI := Lib.hid (ints_self ca da _ cc _ dc _ w2 (r1.below b2) r2)
  replace b2 := below_tr b1 b2
  clear r1 r2
  generalize charsF vs = CF at *
  obtain ⟨cs, co⟩ := CF
  simp only at *
  have hcc : (co != co) = false := by simp
  go_wp2_with fail
  refine HI.out.mono ?_
  rintro e w3 ⟨rfl, b3⟩
  replace b3 := below_tr b2 b3
  clear HI
  go_wp2_with fail
  refine (HK.out _ b3).mono ?_
  rintro e w' ⟨rfl, rfl⟩
  clear HK
  cases vs with
  | nil =>
    have hk : checkF [] = (0, 5) := rfl
    rw [hk]
    go_wp2_with fail
    refine (alive_any _).mono ?_
    rintro e wq ⟨rfl, bq⟩
    replace bq := below_tr b3 bq
    go_wp2
    go_ret
    exact ⟨rfl, bq⟩
  | cons s l =>
  rcases checkF_cases s l with ⟨c, hc, hck⟩ | ⟨hs1, hs2, hv, hck⟩
  · rw [hck]
    have hc2 : (c != 0) = true := by simpa using hc
    clear hck hc
    go_wp2_with fail
    refine (alive_any _).mono ?_
    rintro e wq ⟨rfl, bq⟩
    replace bq := below_tr b3 bq
    go_wp2
    go_ret
    exact ⟨rfl, bq⟩
  rw [hck]
  generalize chkL (s :: l) = ck at *
  clear hck hv
  obtain ⟨ab, ao, e1, _⟩ := H.out.cell 0 (by have := HL.out; simp at this; omega)
  subst e1
  have own0 : (w3.alloc (.cells #[] 3)).ownsRow w3.heap.size 3 1 (.slice (some ⟨w3.heap.size, 0, none⟩) 0 0) 0 [] := own_new w3 [] 0 (Nat.le_refl _) rfl (by unfold maxLen; omega)
  have hBa : Below w.heap.size w (w3.alloc (.cells #[] 3)) := b3.alloc b3.size _
  have hrc := rd_cells (H.out.below hBa)
  have hl1 : (s :: l).length = n := HL.out
  have HL1 := Lib.hid hl1; clear hl1
  generalize hvv : s :: l = vs at *
  clear hvv
  go_wp2_with (at_builtin; refine wpList_append_own _ rfl (.tmp 41) (.tmp 42) 22 rfl w3.heap.size 3 i3 (.int .i64 0) 1 8 Try.underlying22 hi3 hz3a hz3b hz3c rfl (by decide) _ _ _ rfl own0 ⟨ab, ao, none⟩ n cap (vs.map (Value.int .i64)) rfl (by rw [List.length_map, HL1.out, Nat.mul_one]) hrc (by simp [Value.oneCell']) ?c3 ?c4 ?c5 ?_)
  case c3 => unfold maxLen; omega
  case c4 => omega
  case c5 => simp
  intro v' w4 hown' hgrow _
  have hB4 : Below w.heap.size w w4 := below_grow1 hBa own0 b3.size hBa.size hgrow
  have hown4 : w4.ownsRow w.heap.size 3 1 v' n (vs.map (Value.int .i64)) := own_mono (own_congr hown' (by simp) (by simp)) b3.size
  obtain ⟨va, vc, rfl, _⟩ := own_rd hown4
  clear hown' hgrow hrc own0 hBa
  go_wp2_with (at_builtin; refine wpList_append_own _ rfl (.tmp 43) (.tmp 45) 22 rfl w.heap.size 3 i3 (.int .i64 0) 1 8 Try.underlying22 hi3 hz3a hz3b hz3c rfl (by decide) _ _ _ rfl (hown4.alloc _) ⟨w4.heap.size, 0, none⟩ 2 2 [.int .i64 ck, .int .i64 106] rfl rfl (cells_new _ _) (by simp [Value.oneCell']) ?c3 ?c4 ?c5 ?_)
  case c3 => unfold maxLen; omega
  case c4 => omega
  case c5 => have := hB4.size; simp; omega
  intro v' w5 hown' hgrow _
  have hB5 := below_app hB4 hB4.size hown4 hgrow
  have hown5 : w5.ownsRow w.heap.size 3 1 v' (n + 2) ((vs ++ [ck, 106]).map (Value.int .i64)) := own_congr hown' rfl (by simp)
  obtain ⟨fa, fc, rfl, rf, fc1, fc2⟩ := own_rd3 hown5
  generalize vs ++ [ck, 106] = fs at *
  clear hown' hgrow hown4 hown5 hB4
  have HC := Lib.hid (chars_any fa (n + 2) fc fs w5 rf (by omega) fc1 fc2)
  have HR := Lib.hid (fun W (hW : Below w5.heap.size w5 W) => refChars_any fa (n + 2) fc fs W (rf.below hW) (by omega))
  clear rf
  go_wp2_with fail
  refine HC.out.mono ?_
  rintro e w6 hret
  obtain ⟨ga, gc, rfl, r6, b6⟩ := hret.open
  clear hret HC
  go_wp2_with fail
  refine (HR.out _ b6).mono ?_
  rintro e w7 hret
  obtain ⟨ka, kc, rfl, r7, b7⟩ := hret.open
  clear hret HR
  have HI := Lib.hid (ints_self ga ka _ gc _ kc _ w7 (r6.below b7) r7)
  replace b7 := below_tr (below_tr hB5 b6) b7
  clear r6 r7
  generalize charsF fs = CF at *
  obtain ⟨cs2, co2⟩ := CF
  simp only at *
  have hcc2 : (co2 == co2) = true := by simp
  go_wp2_with fail
  refine HI.out.mono ?_
  rintro e w8 ⟨rfl, b8⟩
  replace b8 := below_tr b7 b8
  go_wp2_with fail
  refine (alive_any _).mono ?_
  rintro e wq ⟨rfl, bq⟩
  replace bq := below_tr b8 bq
  go_wp2
  go_ret
  exact ⟨rfl, bq⟩

end Go.Proofs.Ytofedeokliljkaa
