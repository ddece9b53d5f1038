/-
  Plain: the reference's reading of values is the program's.
-/
import Derived.Test.YtofedeokliljkaaWalkRa
import Derived.Test.YtofedeokliljkaaWalkR
namespace Go.Proofs.Ytofedeokliljkaa

def readsF : Int → Bool → List Int → List Int → Option (List Int)
  | _, sh, acc, [] => if sh = true then none else some acc
  | set, sh, acc, v :: r => match readF set sh acc v with
    | none => none
    | some (s, h, a) => readsF s h a r

theorem reads_none {set : Int} {sh : Bool} {acc : List Int} {v : Int} {r : List Int} (h : readF set sh acc v = none) : readsF set sh acc (v :: r) = none := by simp only [readsF, h]
theorem reads_some {set s : Int} {sh g : Bool} {acc a : List Int} {v : Int} {r : List Int} (h : readF set sh acc v = some (s, g, a)) : readsF set sh acc (v :: r) = readsF s g a r := by simp only [readsF, h]

def asOpt (p : List Int × Int) : Option (List Int) := if p.2 = 0 then some p.1 else none

theorem reads_int : ∀ (n : Nat) (vs : List Int), vs.length ≤ n → (∀ v ∈ vs, 0 ≤ v ∧ v ≤ 106) → ∀ (set : Int) (acc : List Int), 0 ≤ set → set ≤ 2 → readsF set false acc vs = asOpt (intF (set + 2) acc vs)
  | _, [], _, _, set, acc, _, _ => by simp [readsF, asOpt, intF]
  | 0, v :: r, h, _, _, _, _, _ => by simp at h
  | n + 1, v :: r, h, hv, set, acc, h0, h2 => by
    have hr : r.length ≤ n := by simpa using h
    have hvv := hv v (by simp)
    have hvr : ∀ u ∈ r, 0 ≤ u ∧ u ≤ 106 := fun u hu => hv u (by simp [hu])
    have ih := fun s a h1 h2 => reads_int n r hr hvr s a h1 h2
    by_cases c1 : 102 < v
    · rw [reads_none (by unfold readF; simp [c1]), intF_long _ _ _ _ c1]; rfl
    by_cases c2 : v = 102
    · rw [reads_some (s := set) (g := false) (a := acc ++ [256]) (by unfold readF; simp [c2]), intF_fnc1 _ _ _ _ c2]; exact ih _ _ h0 h2
    by_cases c3 : set = 2 ∧ v ≤ 99
    · rw [reads_some (s := set) (g := false) (a := acc ++ [48 + v / 10, 48 + v % 10]) (by unfold readF; simp [c1, c2, c3]), intF_pair _ _ _ _ ⟨by omega, c3.2⟩]; exact ih _ _ h0 h2
    by_cases c4 : v < 64
    · rw [reads_some (s := set) (g := false) (a := acc ++ [v + 32]) (by unfold readF; rw [if_neg (by simp), if_neg c1, if_neg c2, if_neg c3, if_pos c4]), intF_text _ _ _ _ ⟨by omega, by omega⟩]
      rw [show charF v (set + 2) = v + 32 by unfold charF; rw [if_neg (by omega)]]; exact ih _ _ h0 h2
    by_cases c5 : v < 96 ∧ set = 0
    · rw [reads_some (s := set) (g := false) (a := acc ++ [v - 64]) (by unfold readF; rw [if_neg (by simp), if_neg c1, if_neg c2, if_neg c3, if_neg c4, if_pos c5]), intF_text _ _ _ _ ⟨by omega, by omega⟩]
      rw [show charF v (set + 2) = v - 64 by unfold charF; rw [if_pos (by omega)]]; exact ih _ _ h0 h2
    by_cases c6 : v < 96
    · rw [reads_some (s := set) (g := false) (a := acc ++ [v + 32]) (by unfold readF; rw [if_neg (by simp), if_neg c1, if_neg c2, if_neg c3, if_neg c4, if_neg c5, if_pos c6]), intF_text _ _ _ _ ⟨by omega, by omega⟩]
      rw [show charF v (set + 2) = v + 32 by unfold charF; rw [if_neg (by omega)]]; exact ih _ _ h0 h2
    by_cases c7 : v = 96
    · rw [reads_some (s := set) (g := false) (a := acc ++ [258]) (by unfold readF; rw [if_neg (by simp), if_neg c1, if_neg c2, if_neg c3, if_neg c4, if_neg c5, if_neg c6, if_pos c7]), intF_fnc3 _ _ _ _ ⟨by omega, c7⟩]; exact ih _ _ h0 h2
    by_cases c8 : v = 97
    · rw [reads_some (s := set) (g := false) (a := acc ++ [257]) (by unfold readF; rw [if_neg (by simp), if_neg c1, if_neg c2, if_neg c3, if_neg c4, if_neg c5, if_neg c6, if_neg c7, if_pos c8]), intF_fnc2 _ _ _ _ ⟨by omega, c8⟩]; exact ih _ _ h0 h2
    by_cases c9 : v = 98
    · rw [reads_some (s := set) (g := true) (a := acc) (by unfold readF; rw [if_neg (by simp), if_neg c1, if_neg c2, if_neg c3, if_neg c4, if_neg c5, if_neg c6, if_neg c7, if_neg c8, if_pos c9])]
      cases r with
      | nil => rw [intF_shift0 _ _ _ ⟨by omega, c9⟩]; rfl
      | cons u q =>
        have hu := hvr u (by simp)
        rw [intF_shift1 _ _ _ _ _ ⟨by omega, c9⟩]
        by_cases d1 : 95 < u
        · rw [if_pos d1, reads_none (by unfold readF; simp [d1])]; rfl
        · rw [if_neg d1]
          have ihq := fun s a h1 h2 => reads_int n q (by simp at hr; omega) (fun x hx => hvr x (by simp [hx])) s a h1 h2
          by_cases d2 : u < 64
          · rw [reads_some (s := set) (g := false) (a := acc ++ [u + 32]) (by unfold readF; rw [if_pos rfl, if_neg d1, if_pos d2]), ihq _ _ h0 h2]
            rw [show charF u (5 - (set + 2)) = u + 32 by unfold charF; rw [if_neg (by omega)]]
          · by_cases d3 : 1 - set = 0
            · rw [reads_some (s := set) (g := false) (a := acc ++ [u - 64]) (by unfold readF; rw [if_pos rfl, if_neg d1, if_neg d2, if_pos d3]), ihq _ _ h0 h2]
              rw [show charF u (5 - (set + 2)) = u - 64 by unfold charF; rw [if_pos (by omega)]]
            · rw [reads_some (s := set) (g := false) (a := acc ++ [u + 32]) (by unfold readF; rw [if_pos rfl, if_neg d1, if_neg d2, if_neg d3]), ihq _ _ h0 h2]
              rw [show charF u (5 - (set + 2)) = u + 32 by unfold charF; rw [if_neg (by omega)]]
    by_cases c10 : v = 99
    · rw [reads_some (s := 2) (g := false) (a := acc) (by unfold readF; rw [if_neg (by simp), if_neg c1, if_neg c2, if_neg c3, if_neg c4, if_neg c5, if_neg c6, if_neg c7, if_neg c8, if_neg c9, if_pos c10]), intF_codeC _ _ _ _ ⟨by omega, c10⟩]; exact ih _ _ (by omega) (by omega)
    by_cases c11 : v = 101 - set ∧ set < 2
    · rw [reads_some (s := set) (g := false) (a := acc ++ [259]) (by unfold readF; rw [if_neg (by simp), if_neg c1, if_neg c2, if_neg c3, if_neg c4, if_neg c5, if_neg c6, if_neg c7, if_neg c8, if_neg c9, if_neg c10, if_pos c11]), intF_fnc4 _ _ _ _ (by omega)]; exact ih _ _ h0 h2
    · rw [reads_some (s := 101 - v) (g := false) (a := acc) (by unfold readF; rw [if_neg (by simp), if_neg c1, if_neg c2, if_neg c3, if_neg c4, if_neg c5, if_neg c6, if_neg c7, if_neg c8, if_neg c9, if_neg c10, if_neg c11])]
      have hv2 : v = 100 ∨ v = 101 := by omega
      rcases hv2 with rfl | rfl
      · rw [intF_codeB _ _ _ _ ⟨rfl, by omega⟩]; exact ih _ _ (by omega) (by omega)
      · rw [intF_codeA _ _ _ _ ⟨rfl, by omega⟩]; exact ih _ _ (by omega) (by omega)

end Go.Proofs.Ytofedeokliljkaa
