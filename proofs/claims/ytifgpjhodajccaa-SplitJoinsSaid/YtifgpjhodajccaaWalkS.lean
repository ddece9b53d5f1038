/-
  The walks of the reference's header, Join of segments, contents and find. Condition: the messages are few and short.
-/
import Derived.Test.YtifgpjhodajccaaWalkR
namespace Go.Proofs.Ytifgpjhodajccaa
open Go.RowKit

set_option maxRecDepth 100000 in
set_option maxHeartbeats 4000000 in
theorem header_any (i t p : Int) (w : World) :
    Calls Try.prog 37 #[.agg #[.int .i64 i, .int .i64 t, .int .i64 p]] w fun e w' => e = .returned (.bool (validF (i, t, p))) ∧ Below w.heap.size w w' := by
  go_enter Try.func37, Try.ntmps37
  go_wp2_with fail
  all_goals (go_ret; exact ⟨ret_bool (by rw [Bool.eq_iff_iff]; simp_all [validF] <;> try omega), (Below.refl _ _).alloc (Nat.le_refl _) _⟩)

set_option maxRecDepth 100000 in
set_option maxHeartbeats 4000000 in
theorem refJoin16_any (a : Option Addr) (n cap : Nat) (ss : List Sg) (w : World) (h : RdS w a n ss) (hn : n ≤ 1000000) (hj : (joinS ss).length ≤ 100000000) :
    Calls Try.prog 36 #[.slice a n cap] w fun e w' => ∃ v, e = .returned v ∧ w'.ownsRow w.heap.size 5 1 v (joinS ss).length ((joinS ss).map (Value.int .u8)) ∧ Below w.heap.size w w' := by
  have H := Lib.hid h
  have HL := Lib.hid h.len
  clear h
  obtain ⟨i5, hi5, hz5a, hz5b, hz5c⟩ := info_parts info5
  go_enter Try.func36, Try.ntmps36
  go_wp2_with fail
  go_loopg [3, 4] n (fun r v x wr => ∃ k : Nat, k + r = n ∧ x = .int .i64 k ∧ wr.ownsRow w.heap.size 5 1 v (joinS (ss.take k)).length ((joinS (ss.take k)).map (Value.int .u8)) ∧ Below w.heap.size w wr)
  case atStart => exact ⟨0, by omega, rfl, World.ownsRow_nil _ _ _ _, Below.refl _ _⟩
  case round =>
    obtain ⟨k, hk, rfl, hown, hB⟩ := hrel
    have hBs := hB.size
    by_cases hlt : k < n
    · obtain ⟨b, off, rfl, hs⟩ := (H.out.below hB).seg k hlt
      obtain ⟨s, hsk⟩ : ∃ s, ss[k]? = some s := ⟨ss[k]'(by rw [HL.out]; exact hlt), List.getElem?_eq_getElem _⟩
      obtain ⟨hm, da, dc, hd, hr, hdc, hdc2, hnil⟩ := hs s hsk
      have hjt := joinS_take ss k hsk
      have hjl := joinS_le ss (k + 1)
      rw [hjt, List.length_append] at hjl
      have HJT := Lib.hid hjt
      have HR := Lib.hid hr
      have q0 : (0 : Int) ≤ (k : Int) := by omega
      have q1 : (k : Int) < (n : Int) := by omega
      clear hjt hr hs
      obtain ⟨sm, sd⟩ := s
      simp only at *
      cases da with
      | none =>
        have hd0 := hnil rfl
        subst hd0
        have hl0 : sd.length = 0 := by omega
        have hsd : sd = [] := List.eq_nil_of_length_eq_zero hl0
        subst hsd
        have hrn := run_append_owned_none (P := Try.prog) wr w.heap.size 22 22 5 i5 1 Try.underlying22 hi5 _ _ _ hown
        have HRN := Lib.hid hrn
        clear hrn
        go_wp2_with (at_builtin; refine Lib.wpList_append_run _ rfl _ _ _ _ rfl _ _ rfl rfl _ _ HRN.out ?_)
        go_roundg (n - (k + 1))
        case rel => exact ⟨k + 1, by omega, by go_num, by rw [HJT.out, List.append_nil]; exact hown, hB⟩
        case measure => omega
      | some da =>
        obtain ⟨db, dof, dk⟩ := da
        have hdk : 0 < sd.length → dk = none := fun h0 => by
          obtain ⟨b', o', e, _⟩ := HR.out.cell 0 h0
          cases e; rfl
        have hcells : ∀ j u, (sd.map (Value.int .u8))[j]? = some u → wr.cell? ((⟨db, dof, dk⟩ : Addr).add j) = some u := fun j u hj => by
          have hjl : j < sd.length := by
            have := (List.getElem?_eq_some_iff.1 hj).1
            simpa using this
          obtain rfl := hdk (by omega)
          exact rd_cells HR.out j u hj
        have HCE := Lib.hid hcells
        clear hcells
        go_wp2_with (at_builtin; refine wpList_append_own _ rfl _ _ 22 rfl w.heap.size 5 i5 (.int .u8 0) 1 1 Try.underlying22 hi5 hz5a hz5b hz5c rfl (by decide) _ _ _ rfl hown ⟨db, dof, dk⟩ sd.length dc (sd.map (Value.int .u8)) rfl (by simp) HCE.out ?c2 ?c3 ?c4 ?c5 ?_)
        case c2 => intro u hu; obtain ⟨x, _, rfl⟩ := List.mem_map.1 hu; rfl
        case c3 => unfold maxLen; omega
        case c4 => omega
        case c5 => omega
        intro v7 w7 hown7 hgrow7 _
        have hB7 := below_grow1 hB hown (Nat.le_refl _) hBs hgrow7
        clear hgrow7 hown
        go_wp2_with fail
        go_roundg (n - (k + 1))
        case rel => exact ⟨k + 1, by omega, by go_num, by rw [HJT.out]; exact own_congr hown7 (by simp) (by simp), hB7⟩
        case measure => omega
    · obtain rfl : k = n := by omega
      rw [List.take_of_length_le (by rw [HL.out]; exact Nat.le_refl _)] at hown
      go_wp2_with fail
      go_ret
      exact ⟨_, rfl, hown, hB⟩

set_option maxRecDepth 100000 in
set_option maxHeartbeats 4000000 in
theorem contents_any (sa : Option Addr) (n sc : Nat) (ss : List Sg) (i t p : Int) (w : World) (h : RdS w sa n ss) (hn : n ≤ 1000000) (hj : (joinS ss).length ≤ 100000000) :
    Calls Try.prog 27 #[.agg #[.slice sa n sc, .int .i64 i, .int .i64 t, .int .i64 p]] w fun e w' => e = .returned (.string (strOfNums (joinS ss))) ∧ Below w.heap.size w w' := by
  have HB : ∀ o : Obj, Below w.heap.size w (w.alloc o) := fun o => (Below.refl _ _).alloc (Nat.le_refl _) o
  have HJ := Lib.hid (fun W (hW : Below w.heap.size w W) => refJoin16_any sa n sc ss W (h.below hW) hn hj)
  clear h
  go_enter Try.func27, Try.ntmps27
  go_wp2_with fail
  refine (HJ.out _ (HB _)).mono ?_
  rintro e w2 ⟨v, rfl, hown, hb⟩
  obtain ⟨va, vc, rfl, hr⟩ := own_rd hown
  have k1 := conv_any vc hr
  clear hr hown
  go_wp2_with fail
  go_ret
  exact ⟨rfl, below_tr (HB _) (HB _).size hb⟩

/-- find: the place of a message with this index, or none. -/
def FindP (ms : List Msg) (k : Int) (e : Ending) : Prop :=
  (e = .returned (.int .i64 (-1)) ∧ ∀ m ∈ ms, m.2.1 ≠ k) ∨ ∃ (j : Nat) (m : Msg), e = .returned (.int .i64 (j : Int)) ∧ ms[j]? = some m ∧ m.2.1 = k

set_option maxRecDepth 100000 in
set_option maxHeartbeats 4000000 in
theorem find_any (a : Option Addr) (n cap : Nat) (ms : List Msg) (k : Int) (w : World) (h : RdM w a n ms) :
    Calls Try.prog 28 #[.slice a n cap, .int .i64 k] w fun e w' => FindP ms k e ∧ w = w' := by
  have H := Lib.hid h
  have HL := Lib.hid h.len
  have hle := h.le
  clear h
  go_enter Try.func28, Try.ntmps28
  go_wp2_with fail
  go_loop [5] (fun x => ∃ j : Nat, j ≤ n ∧ x = .int .i64 j ∧ Hid (∀ m ∈ ms.take j, m.2.1 ≠ k)) (fun x => n - (Lib.intOf x).toNat)
  case atStart => exact ⟨0, by omega, rfl, Lib.hid (by simp)⟩
  case round =>
    obtain ⟨j, hj, rfl, hP⟩ := hrel
    by_cases hlt : j < n
    · obtain ⟨b, off, m, rfl, hmk, ⟨_, c1, c2, c3⟩, hd⟩ := H.out.at j hlt
      have q0 : (0 : Int) ≤ (j : Int) := by omega
      have q1 : (j : Int) < (n : Int) := by omega
      by_cases hk : m.2.1 = k
      · have hk' : (m.2.1 == k) = true := by simpa using hk
        have HK := Lib.hid hk
        have HMK := Lib.hid hmk
        clear hk hmk hd
        go_wp2_with fail
        go_ret
        exact ⟨.inr ⟨j, m, rfl, HMK.out, HK.out⟩, rfl⟩
      · have hk' : (m.2.1 == k) = false := by simpa using hk
        have HP2 : Hid (∀ m ∈ ms.take (j + 1), m.2.1 ≠ k) := Lib.hid (by
          rw [List.take_add_one, hmk]
          intro m' hm'
          rcases List.mem_append.1 hm' with hm' | hm'
          · exact hP.out m' hm'
          · simp at hm'; subst hm'; exact hk)
        clear hk hmk hd hP
        go_wp2_with fail
        go_round
        case rel => exact ⟨j + 1, by omega, by go_num, HP2⟩
        case measure => simp [Lib.intOf]; omega
    · have hall : ∀ m ∈ ms, m.2.1 ≠ k := by
        have := hP.out
        rwa [List.take_of_length_le (by rw [HL.out]; omega)] at this
      have HA := Lib.hid hall
      clear hall hP
      go_wp2_with fail
      go_ret
      exact ⟨.inl ⟨rfl, HA.out⟩, rfl⟩

end Go.Proofs.Ytifgpjhodajccaa
