/-
  The walks of the law's same and of split.Missing. Condition: the messages are few and short.
-/
import Derived.Test.YtifgpjhodajccaaWalkP
namespace Go.Proofs.Ytifgpjhodajccaa
open Go.RowKit

/-- Whether two lists of one length are equal, place by place. -/
def sameF : List Int → List Int → Bool
  | x :: xs, y :: ys => if x = y then sameF xs ys else false
  | _, _ => true

theorem sameF_eq : ∀ (xs ys : List Int), xs.length = ys.length → sameF xs ys = decide (xs = ys)
  | [], [], _ => rfl
  | [], _ :: _, h => by simp at h
  | _ :: _, [], h => by simp at h
  | x :: xs, y :: ys, h => by
    unfold sameF
    by_cases e : x = y
    · subst e
      rw [if_pos rfl, sameF_eq xs ys (by simpa using h)]
      simp
    · rw [if_neg e]; simp [e]

set_option maxHeartbeats 400000 in
theorem same_len (a a' : Option Addr) (n cap n' cap' : Nat) (w : World) (h : n ≠ n') :
    Calls Try.prog 13 #[.slice a n cap, .slice a' n' cap'] w fun e w' => e = .returned (.bool false) ∧ Below w.heap.size w w' := by
  have hb : ((n : Int) != (n' : Int)) = true := by rw [bne_iff_ne]; omega
  go_enter Try.func13, Try.ntmps13
  go_wp2
  go_ret
  exact ⟨rfl, Below.refl _ _⟩

set_option maxHeartbeats 4000000 in
theorem same_eq (a a' : Option Addr) (n cap cap' : Nat) (xs ys : List Int) (w : World) (h : RdI w a n xs) (h' : RdI w a' n ys) :
    Calls Try.prog 13 #[.slice a n cap, .slice a' n cap'] w fun e w' => e = .returned (.bool (sameF xs ys)) ∧ Below w.heap.size w w' := by
  have hle := h.le
  have H := Lib.hid h; clear h
  have H' := Lib.hid h'; clear h'
  go_enter Try.func13, Try.ntmps13
  go_wp2
  go_loopg [5] n (fun r i wr => ∃ k : Nat, k + r = n ∧ i = .int .i64 k ∧ Below w.heap.size w wr ∧ Hid (sameF (xs.drop k) (ys.drop k) = sameF xs ys))
  case atStart => exact ⟨0, by omega, rfl, Below.refl _ _, rfl⟩
  case round =>
    obtain ⟨k, hk, rfl, hB, hR⟩ := hrel
    by_cases hlt : k < n
    · obtain ⟨b, off, x, rfl, hcell, hd⟩ := (H.out.below hB).at k hlt
      obtain ⟨b', off', y, rfl, hcell', hd'⟩ := (H'.out.below hB).at k hlt
      have hr := hR.out
      rw [hd, hd', sameF] at hr
      have HR := Lib.hid hr; clear hr hd hd' hR
      go_wp2
      go_quiet (fail)
      go_wp2
      all_goals first
        | (go_ret; exact ⟨ret_bool (by rw [← HR.out, if_neg (by simp_all)]), below_drewN hB _⟩)
        | (go_roundg (n - (k + 1))
           case rel => exact ⟨k + 1, by omega, by go_num, below_drewN hB _, by rw [← HR.out, if_pos (by simp_all)]; rfl⟩
           case measure => omega)
    · go_wp2
      go_ret
      have hl := H.out.length
      exact ⟨ret_bool (by rw [← hR.out, drop_all (by omega)]; rfl), hB⟩

/-- same: whether the two lists are one. -/
theorem same_any (a a' : Option Addr) (n cap n' cap' : Nat) (xs ys : List Int) (w : World) (h : RdI w a n xs) (h' : RdI w a' n' ys) :
    Calls Try.prog 13 #[.slice a n cap, .slice a' n' cap'] w fun e w' => e = .returned (.bool (decide (xs = ys))) ∧ Below w.heap.size w w' := by
  by_cases e : n = n'
  · subst e
    have := same_eq a a' n cap cap' xs ys w h h'
    rwa [sameF_eq _ _ (by rw [h.length, h'.length])] at this
  · have := same_len a a' n cap n' cap' w e
    have d : decide (xs = ys) = false := by
      rw [decide_eq_false_iff_not]; rintro rfl; exact e (by rw [← h.length, ← h'.length])
    rwa [d]

theorem collF_hd (ms : List Msg) (h : (collF ms).1 = 0) : 0 ≤ (collF ms).2.2.1 ∧ (collF ms).2.2.1 < 16 ∧ 0 ≤ (collF ms).2.2.2.1 ∧ (collF ms).2.2.2.1 ≤ 16 ∧ 0 ≤ (collF ms).2.2.2.2 ∧ (collF ms).2.2.2.2 ≤ 255 := by
  unfold collF at *
  cases ms with
  | nil => simp at h
  | cons m r =>
    simp only at *
    by_cases hv : ((m :: r).all fun m => validF m.2) = true
    · rw [if_pos hv] at h ⊢
      have hm : validF m.2 = true := List.all_eq_true.1 hv m (by simp)
      have := valid_ix (i := m.2.1) (t := m.2.2.1) (p := m.2.2.2) hm
      cases hc : collGo m.2.2.1 m.2.2.2 (m :: r) [] with
      | none => rw [hc] at h; simp [collE] at h
      | some L => simpa [collE] using this
    · rw [if_neg hv] at h; simp at h

theorem missGo_none {L : Tab} {k : Nat} (h : lookL L (k : Int) = none) : missGo L (k + 1) = missGo L k ++ [(k : Int)] := by
  unfold missGo
  rw [List.range_succ, List.filter_append, List.map_append]
  simp [h]
theorem missGo_some {L : Tab} {k : Nat} {x : List Int} (h : lookL L (k : Int) = some x) : missGo L (k + 1) = missGo L k := by
  unfold missGo
  rw [List.range_succ, List.filter_append, List.map_append]
  simp [h]
theorem missGo_le (L : Tab) (k : Nat) : (missGo L k).length ≤ k := by
  unfold missGo
  rw [List.length_map]
  exact Nat.le_trans (List.length_filter_le _ _) (by simp)

set_option maxRecDepth 100000 in
set_option maxHeartbeats 8000000 in
theorem missing_any (a : Option Addr) (n cap : Nat) (ms : List Msg) (w : World) (h : RdM w a n ms) (hn : n ≤ 1000) (hsh : ShortM ms) :
    Calls Try.prog 17 #[.slice a n cap] w (RetI (missF ms).2 (missF ms).1 w) := by
  have HC := Lib.hid (collect_any a n cap ms w h hn hsh)
  have HD := Lib.hid (collF_hd ms)
  have HMF : Hid (missF ms = if (collF ms).1 ≠ 0 then ((collF ms).1, []) else (0, missGo (collF ms).2.1 (collF ms).2.2.2.1.toNat)) := Lib.hid rfl
  clear h hsh
  obtain ⟨i3, hi3, hz3a, hz3b, hz3c⟩ := info_parts info3
  go_enter Try.func17, Try.ntmps17
  go_wp2_with fail
  refine HC.out.mono ?_
  rintro e w1 ⟨hb1, mv, i, t, p, err, rfl, he, hh, hm⟩
  have hs1 := hb1.size
  by_cases herr : err = 0
  · subst herr
    obtain ⟨b, rfl, hM⟩ := hm rfl
    have hd := HD.out he.symm
    rw [← hh] at hd
    simp only at hd
    obtain ⟨tn, rfl⟩ := Int.eq_ofNat_of_zero_le hd.2.2.1
    have htn : tn ≤ 16 := by omega
    have hmf : missF ms = (0, missGo (collF ms).2.1 tn) := by
      rw [HMF.out, if_neg (by rw [← he]; simp), ← hh]; simp
    generalize (collF ms).2.1 = L at *
    have HM2F := Lib.hid hmf
    clear HC HD HMF hmf hh he hd hm
    go_wp2_with fail
    generalize hw2 : w1.alloc (.cells #[.int .i64 i, .int .i64 tn, .int .i64 p] 40) = w2 at *
    have hb2 : Below w1.heap.size w1 w2 := by rw [← hw2]; exact (Below.refl _ _).alloc (Nat.le_refl _) _
    have hM2 := Lib.hid (hM.below hb2)
    have hBw : Below w.heap.size w w2 := below_tr hb1 hs1 hb2
    have hs2 := hBw.size
    clear hM hb2
    go_loopg [7, 22] tn (fun r v x wr => ∃ k : Nat, k + r = tn ∧ x = .int .i64 k ∧ wr.ownsRow w2.heap.size 3 1 v (missGo L k).length ((missGo L k).map (Value.int .i64)) ∧ Below w2.heap.size w2 wr)
    case atStart => exact ⟨0, by omega, rfl, World.ownsRow_nil _ _ _ _, Below.refl _ _⟩
    case round =>
      obtain ⟨k, hk, rfl, hown, hB⟩ := hrel
      have hBs := hB.size
      by_cases hlt : k < tn
      · have q1 : (k : Int) < (tn : Int) := by omega
        have hml := missGo_le L k
        obtain ⟨v9, hlk, hl1, hl2⟩ := (hM2.out.below hB).look k (by omega) (by omega) true
        rw [if_pos rfl] at hlk
        clear hl1 hl2
        cases hlo : lookL L (k : Int) with
        | none =>
          rw [hlo] at hlk
          simp only [Option.isSome_none] at hlk
          have HMG := Lib.hid (missGo_none hlo)
          go_wp2_with (at_builtin; refine wpList_append_own _ rfl _ _ 26 rfl w2.heap.size 3 i3 (.int .i64 0) 1 8 Try.underlying26 hi3 hz3a hz3b hz3c rfl (by decide) _ _ _ rfl (hown.alloc _) ⟨wr.heap.size, 0, none⟩ 1 1 [.int .i64 k] rfl rfl (cell_one_new _ _ _) (by simp [Value.oneCell']) ?c3 ?c4 ?c5 ?_)
          case c3 => unfold maxLen; omega
          case c4 => omega
          case c5 => simp; omega
          intro v7 w7 hown7 hgrow7 _
          have hB7 := below_app3 hB hBs hown hgrow7
          clear hgrow7 hown
          go_wp2_with fail
          go_roundg (tn - (k + 1))
          case rel => exact ⟨k + 1, by omega, by go_num, by rw [HMG.out]; exact own_congr hown7 (by simp) (by simp), hB7⟩
          case measure => omega
        | some x =>
          rw [hlo] at hlk
          simp only [Option.isSome_some] at hlk
          have HMG := Lib.hid (missGo_some hlo)
          go_wp2_with fail
          go_roundg (tn - (k + 1))
          case rel => exact ⟨k + 1, by omega, by go_num, by rw [HMG.out]; exact hown, hB⟩
          case measure => omega
      · obtain rfl : k = tn := by omega
        go_wp2_with fail
        go_ret2
        rw [HM2F.out]
        exact ⟨_, rfl, own_base hown hs2, hBw.trans (hB.mono hs2)⟩
  · have hmf : missF ms = (err, []) := by
      rw [HMF.out, if_pos (by rw [← he]; exact herr), ← he]
    have HM2F := Lib.hid hmf
    have herr' : (err == 0) = false := by simp [herr]
    clear HC HD HMF hmf hh he hm
    go_wp2_with fail
    go_ret2
    rw [HM2F.out]
    exact retI_nil2 _ _ _ (hb1.alloc hs1 _)

end Go.Proofs.Ytifgpjhodajccaa
