/-
  The walk of the law's few. No condition.
-/
import Derived.Test.YtifgpjhodajccaaWalkR
namespace Go.Proofs.Ytifgpjhodajccaa
open Go.RowKit

/-- Few and short messages. -/
def FewM (ms : List Msg) : Prop := ms.length ≤ 40 ∧ ∀ m ∈ ms, m.1.length ≤ 10 ∧ ∀ s ∈ m.1, s.2.length ≤ 200

theorem flat_le : ∀ (ss : List Sg), (∀ s ∈ ss, s.2.length ≤ 200) → (joinS ss).length ≤ 200 * ss.length := by
  intro ss
  induction ss with
  | nil => intro _; simp [joinS]
  | cons s r ih =>
    intro h
    have h1 := ih fun x hx => h x (by simp [hx])
    have h2 := h s (by simp)
    unfold joinS at *
    simp only [List.map_cons, List.flatten_cons, List.length_append, List.length_cons]
    omega

theorem FewM.short {ms : List Msg} (h : FewM ms) (hb : ∀ m ∈ ms, ∀ s ∈ m.1, ∀ b ∈ s.2, 0 ≤ b ∧ b < 256) : ShortM ms := by
  intro m hm
  obtain ⟨h1, h2⟩ := h.2 m hm
  have := flat_le m.1 h2
  refine ⟨h1, by omega, fun c hc => ?_⟩
  unfold joinS at hc
  obtain ⟨l, hl, hcl⟩ := List.mem_flatten.1 hc
  obtain ⟨s, hs, rfl⟩ := List.mem_map.1 hl
  exact hb m hm s hs c hcl

def FewP (ms : List Msg) (w : World) (e : Ending) (w' : World) : Prop := (∃ b, e = .returned (.bool b) ∧ (b = true → FewM ms)) ∧ Below w.heap.size w w'

set_option maxRecDepth 100000 in
set_option maxHeartbeats 8000000 in
theorem few_any (a : Option Addr) (n cap : Nat) (ms : List Msg) (w : World) (h : RdM w a n ms) :
    Calls Try.prog 14 #[.slice a n cap] w (FewP ms w) := by
  have H := Lib.hid h
  have HL := Lib.hid h.len
  have hle := h.le
  clear h
  by_cases h40 : 40 < n
  · have hd : decide (40 < (n : Int)) = true := by simp; omega
    go_enter Try.func14, Try.ntmps14
    go_wp2_with fail
    go_ret
    exact ⟨⟨_, rfl, fun h => by cases h⟩, Below.refl _ _⟩
  · have hd : decide (40 < (n : Int)) = false := by simp; omega
    go_enter Try.func14, Try.ntmps14
    go_wp2_with fail
    go_loopg [3] n (fun r x wr => ∃ k : Nat, k + r = n ∧ x = .int .i64 k ∧ Below w.heap.size w wr ∧ Hid (∀ m ∈ ms.take k, m.1.length ≤ 10 ∧ ∀ s ∈ m.1, s.2.length ≤ 200))
    case atStart => exact ⟨0, by omega, rfl, Below.refl _ _, Lib.hid (by simp)⟩
    case round =>
      obtain ⟨k, hk, rfl, hB, hV⟩ := hrel
      by_cases hlt : k < n
      · obtain ⟨b, off, m, rfl, hmk, hmr, hd⟩ := (H.out.below hB).at k hlt
        obtain ⟨⟨sa, sc, c0, hrs⟩, c1, c2, c3⟩ := hmr
        obtain ⟨ss, i1, t1, p1⟩ := m
        simp only at c0 c1 c2 c3 hrs
        have q0 : (0 : Int) ≤ (k : Int) := by omega
        have q1 : (k : Int) < (n : Int) := by omega
        by_cases h10 : 10 < ss.length
        · have hd10 : decide (10 < (ss.length : Int)) = true := by simp; omega
          go_wp2_with fail
          go_ret
          exact ⟨⟨_, rfl, fun h => by cases h⟩, hB⟩
        · have hd10 : decide (10 < (ss.length : Int)) = false := by simp; omega
          have HMK := Lib.hid hmk
          have hlb := lt_of_cell c1
          have HRS := Lib.hid hrs
          clear hmk hd hrs
          obtain ⟨wo, hwo⟩ : ∃ wo, wo = wr := ⟨_, rfl⟩
          subst hwo
          go_wp2_with fail
          go_loopg [4] ss.length (fun r x wz => ∃ q : Nat, q + r = ss.length ∧ x = .int .i64 q ∧ Below wo.heap.size wo wz ∧ Hid (∀ s ∈ ss.take q, s.2.length ≤ 200))
          case atStart => exact ⟨0, by omega, rfl, Below.refl _ _, Lib.hid (by simp)⟩
          case round =>
            obtain ⟨q, hq, rfl, hBq, hR⟩ := hrel
            have hBw : Below w.heap.size w wr := below_tr hB hB.size hBq
            have c0' := (hBq.cell (p := ⟨b, off + k * 4, none⟩) hlb).trans c0
            by_cases hlq : q < ss.length
            · obtain ⟨sb, so, rfl, hsg⟩ := (HRS.out.below hBq).seg q hlq
              obtain ⟨s, hsk⟩ : ∃ s, ss[q]? = some s := ⟨ss[q], List.getElem?_eq_getElem hlq⟩
              obtain ⟨_, da, dc, hdd, _⟩ := hsg s hsk
              have q2 : (0 : Int) ≤ (q : Int) := by omega
              have q3 : (q : Int) < (ss.length : Int) := by omega
              clear hsg c0 c1 c2 c3
              by_cases h200 : 200 < s.2.length
              · have hd2 : decide (200 < (s.2.length : Int)) = true := by simp; omega
                go_wp2_with fail
                go_ret
                exact ⟨⟨_, rfl, fun h => by cases h⟩, hBw⟩
              · have hd2 : decide (200 < (s.2.length : Int)) = false := by simp; omega
                have HR2 : Hid (∀ s ∈ ss.take (q + 1), s.2.length ≤ 200) := Lib.hid (by
                  rw [List.take_add_one, hsk]
                  intro x hx
                  rcases List.mem_append.1 hx with hx | hx
                  · exact hR.out x hx
                  · simp at hx; subst hx; omega)
                clear hR hsk
                go_wp2_with fail
                go_roundg (ss.length - (q + 1))
                case rel => exact ⟨q + 1, by omega, by go_num, hBq, HR2⟩
                case measure => omega
            · have HV2 : Hid (∀ m ∈ ms.take (k + 1), m.1.length ≤ 10 ∧ ∀ s ∈ m.1, s.2.length ≤ 200) := Lib.hid (by
                rw [List.take_add_one, HMK.out]
                intro x hx
                rcases List.mem_append.1 hx with hx | hx
                · exact hV.out x hx
                · simp at hx; subst hx
                  have := hR.out
                  rw [List.take_of_length_le (by omega)] at this
                  exact ⟨by simp only; omega, this⟩)
              clear hV hR c0 c1 c2 c3
              go_wp2_with fail
              go_roundg (n - (k + 1))
              case rel => exact ⟨k + 1, by omega, by go_num, hBw, HV2⟩
              case measure => omega
      · go_wp2_with fail
        go_ret
        refine ⟨⟨_, rfl, fun _ => ⟨by rw [HL.out]; omega, ?_⟩⟩, hB⟩
        have := hV.out
        rwa [List.take_of_length_le (by rw [HL.out]; omega)] at this

end Go.Proofs.Ytifgpjhodajccaa
