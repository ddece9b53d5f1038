/-
  The walks of modes.Join and of the reference's Join. Condition: the segments are not too long.
-/
import Derived.Test.YtifgpjhodajccaaWalkM
namespace Go.Proofs.Ytifgpjhodajccaa
open Go.RowKit

/-- A segment: its mode, its bytes. -/
abbrev Sg := Int × List Int

structure SegR (w : World) (b o : Nat) (s : Sg) : Prop where
  m : w.cell? ⟨b, o, none⟩ = some (.int .i64 s.1)
  d : ∃ da dc, w.cell? ⟨b, o + 1, none⟩ = some (.slice da s.2.length dc) ∧ RdU w da s.2.length s.2 ∧ s.2.length ≤ dc ∧ dc ≤ 9223372036854775807 ∧ (da = none → dc = 0)

theorem SegR.below {w w' : World} {b o : Nat} {s : Sg} (h : SegR w b o s) (hb : Below w.heap.size w w') : SegR w' b o s := by
  have hl := lt_of_cell h.m
  obtain ⟨da, dc, h1, h2, h3, h4, h5⟩ := h.d
  exact ⟨(hb.cell (p := ⟨b, o, none⟩) hl).trans h.m, da, dc, (hb.cell (p := ⟨b, o + 1, none⟩) hl).trans h1, h2.below hb, h3, h4, h5⟩

/-- A slice of segments. -/
structure RdS (w : World) (a : Option Addr) (n : Nat) (ss : List Sg) : Prop where
  len : ss.length = n
  le : n ≤ 9223372036854775807
  seg : ∀ k, k < n → ∃ b off, a = some ⟨b, off, none⟩ ∧ ∀ s, ss[k]? = some s → SegR w b (off + k * 2) s

theorem RdS.below {w w' : World} {a : Option Addr} {n : Nat} {ss : List Sg} (h : RdS w a n ss) (hb : Below w.heap.size w w') : RdS w' a n ss :=
  ⟨h.len, h.le, fun k hk => let ⟨b, off, e, hs⟩ := h.seg k hk; ⟨b, off, e, fun s h1 => (hs s h1).below hb⟩⟩

/-- All bytes of segments. -/
def joinS (ss : List Sg) : List Int := (ss.map (·.2)).flatten

theorem joinS_take (ss : List Sg) (k : Nat) {s : Sg} (h : ss[k]? = some s) : joinS (ss.take (k + 1)) = joinS (ss.take k) ++ s.2 := by
  unfold joinS
  rw [List.take_add_one, h]
  simp

theorem joinS_le (ss : List Sg) (k : Nat) : (joinS (ss.take k)).length ≤ (joinS ss).length := by
  have : joinS ss = joinS (ss.take k) ++ joinS (ss.drop k) := by
    unfold joinS
    rw [← List.flatten_append, ← List.map_append, List.take_append_drop]
  rw [this]; simp

set_option maxRecDepth 100000 in
set_option maxHeartbeats 4000000 in
theorem modesJoin_any (a : Option Addr) (n cap : Nat) (ss : List Sg) (w : World) (h : RdS w a n ss) (hn : n ≤ 1000000) (hj : (joinS ss).length ≤ 100000000) :
    Calls Try.prog 33 #[.slice a n cap] w fun e w' => ∃ v, e = .returned v ∧ w'.ownsRow w.heap.size 5 1 v (joinS ss).length ((joinS ss).map (Value.int .u8)) ∧ Below w.heap.size w w' := by
  have H := Lib.hid h
  have HL := Lib.hid h.len
  clear h
  obtain ⟨i5, hi5, hz5a, hz5b, hz5c⟩ := info_parts info5
  go_enter Try.func33, Try.ntmps33
  go_wp2_with fail
  go_loopg [3, 8] n (fun r v x wr => ∃ k : Nat, k + r = n ∧ x = .int .i64 k ∧ wr.ownsRow w.heap.size 5 1 v (joinS (ss.take k)).length ((joinS (ss.take k)).map (Value.int .u8)) ∧ Below w.heap.size w wr)
  case atStart => exact ⟨0, by omega, rfl, World.ownsRow_nil _ _ _ _, Below.refl _ _⟩
  case round =>
    obtain ⟨k, hk, rfl, hown, hB⟩ := hrel
    have hBs := hB.size
    by_cases hlt : k < n
    · obtain ⟨b, off, rfl, hs⟩ := (H.out.below hB).seg k hlt
      obtain ⟨s, hsk⟩ : ∃ s, ss[k]? = some s := ⟨ss[k]'(by rw [HL.out]; exact hlt), List.getElem?_eq_getElem _⟩
      obtain ⟨hm, da, dc, hd, hr, hdc, hdc2, hnil⟩ := hs s hsk
      have hjt := joinS_take ss k hsk
      have hjl := joinS_le ss (k + 1)
      rw [hjt, List.length_append] at hjl
      have HJT := Lib.hid hjt
      have HR := Lib.hid hr
      have q0 : (0 : Int) ≤ (k : Int) := by omega
      have q1 : (k : Int) < (n : Int) := by omega
      clear hjt hr hs
      obtain ⟨sm, sd⟩ := s
      simp only at *
      cases da with
      | none =>
        have hd0 := hnil rfl
        subst hd0
        have hl0 : sd.length = 0 := by omega
        have hsd : sd = [] := List.eq_nil_of_length_eq_zero hl0
        subst hsd
        have hrn := run_append_owned_none (P := Try.prog) (wr.alloc (.cells #[.int .i64 sm, .slice none 0 0] 52)) w.heap.size 22 22 5 i5 1 Try.underlying22 hi5 _ _ _ (hown.alloc (.cells #[.int .i64 sm, .slice none 0 0] 52))
        have HRN := Lib.hid hrn
        clear hrn
        go_wp2_with (at_builtin; refine Lib.wpList_append_run _ rfl _ _ _ _ rfl _ _ rfl rfl _ _ HRN.out ?_)
        go_roundg (n - (k + 1))
        case rel => exact ⟨k + 1, by omega, by go_num, by rw [HJT.out, List.append_nil]; exact hown.alloc _, hB.alloc hBs _⟩
        case measure => omega
      | some da =>
        obtain ⟨db, dof, dk⟩ := da
        have hdk : 0 < sd.length → dk = none := fun h0 => by
          obtain ⟨b', o', e, _⟩ := HR.out.cell 0 h0
          cases e; rfl
        have hcells : ∀ j u, (sd.map (Value.int .u8))[j]? = some u → (wr.alloc (.cells #[.int .i64 sm, .slice (some ⟨db, dof, dk⟩) sd.length dc] 52)).cell? ((⟨db, dof, dk⟩ : Addr).add j) = some u := fun j u hj => by
          have hjl : j < sd.length := by
            have := (List.getElem?_eq_some_iff.1 hj).1
            simpa using this
          obtain rfl := hdk (by omega)
          have hb2 : Below wr.heap.size wr (wr.alloc (.cells #[.int .i64 sm, .slice (some ⟨db, dof, none⟩) sd.length dc] 52)) := (Below.refl _ _).alloc (Nat.le_refl _) _
          exact rd_cells (HR.out.below hb2) j u hj
        have HCE := Lib.hid hcells
        clear hcells
        go_wp2_with (at_builtin; refine wpList_append_own _ rfl _ _ 22 rfl w.heap.size 5 i5 (.int .u8 0) 1 1 Try.underlying22 hi5 hz5a hz5b hz5c rfl (by decide) _ _ _ rfl (hown.alloc _) ⟨db, dof, dk⟩ sd.length dc (sd.map (Value.int .u8)) rfl (by simp) HCE.out ?c2 ?c3 ?c4 ?c5 ?_)
        case c2 => intro u hu; obtain ⟨x, _, rfl⟩ := List.mem_map.1 hu; rfl
        case c3 => unfold maxLen; omega
        case c4 => omega
        case c5 => simp; omega
        intro v7 w7 hown7 hgrow7 _
        have hB7 := below_app3 hB hBs hown hgrow7
        clear hgrow7 hown
        go_wp2_with fail
        go_roundg (n - (k + 1))
        case rel => exact ⟨k + 1, by omega, by go_num, by rw [HJT.out]; exact own_congr hown7 (by simp) (by simp), hB7⟩
        case measure => omega
    · obtain rfl : k = n := by omega
      rw [List.take_of_length_le (by rw [HL.out]; exact Nat.le_refl _)] at hown
      go_wp2_with fail
      go_ret
      exact ⟨_, rfl, hown, hB⟩

end Go.Proofs.Ytifgpjhodajccaa
