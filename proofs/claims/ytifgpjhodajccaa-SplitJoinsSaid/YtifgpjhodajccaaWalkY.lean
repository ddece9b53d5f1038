/-
  The walks of the reference's Missing. Condition: the messages are few and short.
-/
import Derived.Test.YtifgpjhodajccaaWalkU
namespace Go.Proofs.Ytifgpjhodajccaa
open Go.RowKit

theorem coll_zero {ms : List Msg} (h : (collF ms).1 = 0) : ∃ m0 r L, ms = m0 :: r ∧ collF ms = (0, L, m0.2) ∧ TabOf L ms ∧ (∀ m ∈ ms, validF m.2 = true) ∧ (∀ m ∈ ms, m.2.2.1 = m0.2.2.1 ∧ m.2.2.2 = m0.2.2.2) := by
  cases ms with
  | nil => simp [collF] at h
  | cons m r =>
    rcases valid_all_or (m :: r) with hv | ⟨m', hm', hv⟩
    · rcases collF_spec m r hv with ⟨L, c1, t1, p1, _⟩ | ⟨c1, _⟩
      · exact ⟨m, r, L, rfl, c1, t1, hv, p1⟩
      · rw [c1] at h; cases h
    · rw [collF_bad hm' hv] at h; cases h

theorem FindP.look {ms : List Msg} {k : Int} {e : Ending} {L : Tab} (h : FindP ms k e) (t : TabOf L ms) : (e = .returned (.int .i64 (-1)) ∧ lookL L k = none) ∨ ∃ (j : Nat) (m : Msg), e = .returned (.int .i64 (j : Int)) ∧ ms[j]? = some m ∧ m.2.1 = k ∧ lookL L k = some (joinS m.1) := by
  rcases h with ⟨h1, h2⟩ | ⟨j, m, h1, h2, h3⟩
  · refine .inl ⟨h1, ?_⟩
    cases hl : lookL L k with
    | none => rfl
    | some x =>
      obtain ⟨m, hm, e1, _⟩ := (t.look k x).1 hl
      exact absurd e1 (h2 m hm)
  · exact .inr ⟨j, m, h1, h2, h3, (t.look _ _).2 ⟨m, List.mem_of_getElem? h2, h3, rfl⟩⟩

set_option maxRecDepth 100000 in
set_option maxHeartbeats 8000000 in
theorem refMissing_any (a : Option Addr) (n cap : Nat) (ms : List Msg) (w : World) (h : RdM w a n ms) (hn : n ≤ 1000) (hsh : ShortM ms) :
    Calls Try.prog 18 #[.slice a n cap] w (RetI (missF ms).2 (missF ms).1 w) := by
  have HC := Lib.hid (check_any a n cap ms w h hn hsh)
  have H := Lib.hid h
  have HL := Lib.hid h.len
  have HD := Lib.hid (collF_hd ms)
  have HMF : Hid (missF ms = if (collF ms).1 ≠ 0 then ((collF ms).1, []) else (0, missGo (collF ms).2.1 (collF ms).2.2.2.1.toNat)) := Lib.hid rfl
  clear h hsh
  obtain ⟨i3, hi3, hz3a, hz3b, hz3c⟩ := info_parts info3
  by_cases herr : (collF ms).1 = 0
  · obtain ⟨m0, r, L, hms, hcf, hT, _, _⟩ := coll_zero herr
    have hd := HD.out herr
    rw [hcf] at hd
    simp only at hd
    obtain ⟨tn, htn⟩ := Int.eq_ofNat_of_zero_le hd.2.2.1
    have htn16 : tn ≤ 16 := by omega
    have hmf : missF ms = (0, missGo L tn) := by
      rw [HMF.out, if_neg (by rw [herr]; simp), hcf]; simp [htn]
    have hn0 : 0 < n := by rw [← HL.out, hms]; simp
    have hm0 : ms[0]? = some m0 := by rw [hms]; rfl
    rw [herr] at HC
    have HM2F := Lib.hid hmf
    have HT := Lib.hid hT
    have HM0 := Lib.hid hm0
    clear HMF HD hmf hcf hT hms herr hd hm0
    go_enter Try.func18, Try.ntmps18
    go_wp2_with fail
    refine HC.out.mono ?_
    rintro e w2 ⟨rfl, hBw⟩
    have hs2 := hBw.size
    go_wp2_with fail
    go_loopg [5, 6] tn (fun r v x wr => ∃ k : Nat, k + r = tn ∧ x = .int .i64 k ∧ wr.ownsRow w2.heap.size 3 1 v (missGo L k).length ((missGo L k).map (Value.int .i64)) ∧ Below w2.heap.size w2 wr)
    case atStart => exact ⟨0, by omega, rfl, World.ownsRow_nil _ _ _ _, Below.refl _ _⟩
    case round =>
      obtain ⟨k, hk, rfl, hown, hB⟩ := hrel
      have hBs := hB.size
      have hM := (H.out.below hBw).below hB
      obtain ⟨b, off, m1, rfl, hmk1, ⟨_, d1, d2, d3⟩, _⟩ := hM.at 0 hn0
      obtain rfl : m1 = m0 := by
        have := HM0.out
        rw [hmk1] at this
        exact Option.some.inj this
      simp only [Nat.zero_mul, Nat.add_zero] at d1 d2 d3
      rw [htn] at d2
      have hn0i : (0 : Int) < (n : Int) := by omega
      have HFI := Lib.hid (find_any (some ⟨b, off, none⟩) n cap ms k wr hM)
      clear hM
      by_cases hlt : k < tn
      · have q1 : (k : Int) < (tn : Int) := by omega
        have hml := missGo_le L k
        go_wp2_with fail
        refine HFI.out.mono ?_
        rintro e w7 ⟨hfp, rfl⟩
        rcases hfp.look HT.out with ⟨rfl, hlo⟩ | ⟨j, m, rfl, hmj, hmi, hlo⟩
        · have HMG := Lib.hid (missGo_none hlo)
          clear hfp hlo
          go_wp2_with (at_builtin; refine wpList_append_own _ rfl _ _ 26 rfl w2.heap.size 3 i3 (.int .i64 0) 1 8 Try.underlying26 hi3 hz3a hz3b hz3c rfl (by decide) _ _ _ rfl (hown.alloc _) ⟨wr.heap.size, 0, none⟩ 1 1 [.int .i64 k] rfl rfl (cell_one_new _ _ _) (by simp [Value.oneCell']) ?c3 ?c4 ?c5 ?_)
          case c3 => unfold maxLen; omega
          case c4 => omega
          case c5 => simp; omega
          intro v7 w7 hown7 hgrow7 _
          have hB7 := below_app3 hB hBs hown hgrow7
          clear hgrow7 hown
          go_wp2_with fail
          go_roundg (tn - (k + 1))
          case rel => exact ⟨k + 1, by omega, by go_num, by rw [HMG.out]; exact own_congr hown7 (by simp) (by simp), hB7⟩
          case measure => omega
        · have HMG := Lib.hid (missGo_some hlo)
          have hneg : decide ((j : Int) < 0) = false := by simp
          clear hfp hlo hmj hmi
          go_wp2_with fail
          go_roundg (tn - (k + 1))
          case rel => exact ⟨k + 1, by omega, by go_num, by rw [HMG.out]; exact hown, hB⟩
          case measure => omega
      · obtain rfl : k = tn := by omega
        go_wp2_with fail
        go_ret2
        rw [HM2F.out]
        exact ⟨_, rfl, own_base hown hs2, hBw.trans (hB.mono hs2)⟩
  · have hmf : missF ms = ((collF ms).1, []) := by
      rw [HMF.out, if_pos herr]
    have HM2F := Lib.hid hmf
    generalize (collF ms).1 = err at *
    have herr' : (err == 0) = false := by simp [herr]
    clear HMF hmf HD
    go_enter Try.func18, Try.ntmps18
    go_wp2_with fail
    refine HC.out.mono ?_
    rintro e w2 ⟨rfl, hBw⟩
    go_wp2_with fail
    go_ret2
    rw [HM2F.out]
    exact retI_nil2 _ _ _ hBw

end Go.Proofs.Ytifgpjhodajccaa
