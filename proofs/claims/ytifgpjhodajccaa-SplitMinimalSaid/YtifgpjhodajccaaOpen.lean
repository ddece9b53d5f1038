/-
  How an argument that is a slice of integers or bools reads. No condition.
-/
import Derived.Test.YtifgpjhodajccaaMem
namespace Go.Proofs.Ytifgpjhodajccaa
open Go.RowKit

theorem rd_nil {w : World} {α : Type} {f : α → Value} : Rd w none 0 (([] : List α).map f) := ⟨rfl, by omega, fun k hk => absurd hk (by omega)⟩

theorem spot_none {w : World} {a : Addr} {v : Value} (h : w.cell? a = some v) : a.spot = none := by
  obtain ⟨b, o, s⟩ := a
  cases s with
  | none => rfl
  | some s => unfold World.cell? at h; split at h <;> simp at h

theorem add_none (b o k : Nat) : (⟨b, o, none⟩ : Addr).add k = ⟨b, o + k, none⟩ := by
  unfold Addr.add
  split
  · rename_i h; subst h; rfl
  · rfl

theorem rd_ints {w : World} {x : Addr} {len cap : Nat} {zs : List Int} (hl : len ≤ cap) (hm : cap ≤ maxLen) (hz : zs.length = cap) (hc : ∀ i, i < zs.length → w.cell? (x.add i) = some (.int .i64 (zs.getD i 0))) :
    Rd w (some x) len ((zs.take len).map (Value.int .i64)) := by
  refine ⟨by simp; omega, by unfold maxLen at hm; omega, fun k hk => ?_⟩
  have h0 := hc 0 (by omega)
  have h1 := hc k (by omega)
  have hs := spot_none h0
  obtain ⟨b, o, s⟩ := x
  simp [Addr.add] at hs
  subst hs
  rw [add_none] at h1
  refine ⟨b, o, rfl, h1.trans ?_⟩
  have hkz : k < zs.length := by omega
  simp [hk, hkz]

theorem rd_bytes {w : World} {x : Addr} {len cap : Nat} {zs : List Int} (hl : len ≤ cap) (hm : cap ≤ maxLen) (hz : zs.length = cap) (hc : ∀ i, i < zs.length → w.cell? (x.add i) = some (.int .u8 (zs.getD i 0))) :
    RdU w (some x) len (zs.take len) := by
  refine ⟨by simp; omega, by unfold maxLen at hm; omega, fun k hk => ?_⟩
  have h0 := hc 0 (by omega)
  have h1 := hc k (by omega)
  have hs := spot_none h0
  obtain ⟨b, o, s⟩ := x
  simp [Addr.add] at hs
  subst hs
  rw [add_none] at h1
  refine ⟨b, o, rfl, h1.trans ?_⟩
  have hkz : k < zs.length := by omega
  simp [hk, hkz]

theorem bounds_u8z {z : Int} (h : (Lit.int .u8 z).wf = true) : 0 ≤ z ∧ z < 256 := by
  simp [Lit.wf, IntKind.min, IntKind.max, IntKind.signed, IntKind.bits] at h
  omega

theorem rd_bools {w : World} {x : Addr} {len cap : Nat} {B : Nat → Bool} (hl : len ≤ cap) (hm : cap ≤ maxLen) (hc : ∀ i, i < cap → w.cell? (x.add i) = some (.bool (B i))) :
    Rd w (some x) len (((List.range len).map B).map Value.bool) := by
  refine ⟨by simp, by unfold maxLen at hm; omega, fun k hk => ?_⟩
  have h0 := hc 0 (by omega)
  have h1 := hc k (by omega)
  have hs := spot_none h0
  obtain ⟨b, o, s⟩ := x
  simp [Addr.add] at hs
  subst hs
  rw [add_none] at h1
  refine ⟨b, o, rfl, h1.trans ?_⟩
  simp [hk]

end Go.Proofs.Ytifgpjhodajccaa
