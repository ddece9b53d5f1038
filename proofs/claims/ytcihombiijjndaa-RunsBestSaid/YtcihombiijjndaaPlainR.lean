/-
  Plain: widths and modules are inverse; stretching multiplies the widths; Shrink inverts Stretch. No condition.
-/
import Derived.Test.YtcihombiijjndaaModel
namespace Go.Proofs.Ytcihombiijjndaa

def modsC : Bool → List Int → List Bool
  | _, [] => []
  | b, x :: r => List.replicate x.toNat b ++ modsC (!b) r

theorem modsI_eq : ∀ (zs : List Int) (i : Nat), modsI i zs = modsC (i % 2 == 0) zs
  | [], _ => rfl
  | x :: r, i => by
    unfold modsI modsC
    rw [modsI_eq r (i + 1)]
    have : ((i + 1) % 2 == 0) = !(i % 2 == 0) := by
      rw [Bool.eq_iff_iff]; simp; omega
    rw [this]

theorem modsC_runF : ∀ (r : List Bool) (x : Bool) (n : Nat), modsC x (runF n (x :: r)) = List.replicate n x ++ x :: r
  | [], x, n => by simp [runF, modsC]; rw [List.replicate_succ']
  | y :: r, x, n => by
    unfold runF
    split
    · rename_i h; subst h
      rw [modsC_runF r x (n + 1), List.replicate_succ']; simp
    · rename_i h
      unfold modsC
      have hy : (!x) = y := by cases x <;> cases y <;> simp_all
      rw [hy, modsC_runF r y 0, show ((n : Int) + 1).toNat = n + 1 by omega, List.replicate_succ']; simp

theorem runF_parity : ∀ (r : List Bool) (x : Bool) (n : Nat), (runF n (x :: r)).length % 2 = 1 ↔ (x :: r).getLast? = some x
  | [], x, n => by simp [runF]
  | y :: r, x, n => by
    unfold runF
    split
    · rename_i h; subst h
      rw [runF_parity r x (n + 1)]; simp
    · rename_i h
      have ih := runF_parity r y 0
      have hl : (x :: y :: r).getLast? = (y :: r).getLast? := by simp
      rw [hl, List.length_cons]
      have hne : (y :: r).getLast? = some x ↔ ¬ (y :: r).getLast? = some y := by
        have : (y :: r).getLast? = some ((y :: r).getLast (by simp)) := List.getLast?_eq_some_getLast (by simp)
        rw [this]
        generalize (y :: r).getLast (by simp) = z
        cases x <;> cases y <;> cases z <;> simp_all
      rw [hne, ← ih]; omega

theorem runF_sum : ∀ (r : List Bool) (x : Bool) (n : Nat), sumI (runF n (x :: r)) = n + (x :: r).length
  | [], x, n => by simp [runF, sumI]
  | y :: r, x, n => by
    unfold runF
    split
    · rw [runF_sum r y (n + 1)]; simp; omega
    · simp only [sumI]; rw [runF_sum r y 0]; simp; omega

theorem runF_pos : ∀ (bs : List Bool) (n : Nat), ∀ z ∈ runF n bs, 1 ≤ z
  | [], _, z, h => by simp [runF] at h
  | [x], n, z, h => by simp [runF] at h; omega
  | x :: y :: r, n, z, h => by
    unfold runF at h
    split at h
    · exact runF_pos (y :: r) (n + 1) z h
    · simp only [List.mem_cons] at h
      rcases h with rfl | h
      · omega
      · exact runF_pos (y :: r) 0 z h

theorem sumI_ge : ∀ (zs : List Int), (∀ z ∈ zs, 1 ≤ z) → (zs.length : Int) ≤ sumI zs ∧ ∀ z ∈ zs, z ≤ sumI zs
  | [], _ => by simp [sumI]
  | x :: r, h => by
    obtain ⟨h1, h2⟩ := sumI_ge r (fun z hz => h z (by simp [hz]))
    have hx := h x (by simp)
    refine ⟨by simp [sumI]; omega, ?_⟩
    intro z hz
    simp only [List.mem_cons] at hz
    unfold sumI
    rcases hz with rfl | hz
    · omega
    · have := h2 z hz; omega

theorem inR_of : ∀ (zs : List Int), (∀ z ∈ zs, 1 ≤ z ∧ z ≤ 65536) → inR zs = true
  | [], _ => rfl
  | x :: r, h => by
    unfold inR
    have hx := h x (by simp)
    rw [if_neg (by omega)]
    exact inR_of r (fun z hz => h z (by simp [hz]))

/-- What the core of a row is, where a module is dark. -/
theorem core_some (bs : List Bool) (h : (marg bs).1 + (marg bs).2 < bs.length) :
    ∃ r, core bs = true :: r ∧ (core bs).getLast? = some true ∧ (core bs).length = bs.length - (marg bs).1 - (marg bs).2 := by
  have hl : (marg bs).1 = leadF 0 bs := rfl
  have hr : (marg bs).2 = leadF 0 bs.reverse := rfl
  have ha := leadF_at bs (by omega)
  have hb := leadF_at bs.reverse (by simp; omega)
  rw [← hl] at ha
  rw [← hr] at hb
  rw [List.getElem?_reverse (by omega)] at hb
  have hlen : (core bs).length = bs.length - (marg bs).1 - (marg bs).2 := by unfold core; simp; omega
  have h0 : (core bs)[0]? = some true := by
    unfold core
    rw [List.getElem?_drop, List.getElem?_take]
    rw [if_pos (by omega), Nat.add_zero]; exact ha
  have hlast : (core bs).getLast? = some true := by
    rw [List.getLast?_eq_getElem?, hlen]
    unfold core
    rw [List.getElem?_drop, List.getElem?_take, if_pos (by omega)]
    rw [show (marg bs).1 + (bs.length - (marg bs).1 - (marg bs).2 - 1) = bs.length - 1 - (marg bs).2 by omega]
    exact hb
  cases hc : core bs with
  | nil => rw [hc] at h0; simp at h0
  | cons x r =>
    rw [hc] at h0 hlast hlen
    simp at h0
    subst h0
    exact ⟨r, rfl, hlast, hlen⟩

/-- Widths and modules are inverse. -/
theorem modules_widths (bs : List Bool) (h : (marg bs).1 + (marg bs).2 < bs.length) (hn : bs.length ≤ 65536) :
    modules (widths bs) = (core bs, 0) ∧ (widths bs).length % 2 = 1 := by
  obtain ⟨r, hc, hlast, hlen⟩ := core_some bs h
  have hodd : (widths bs).length % 2 = 1 := by
    unfold widths; rw [hc]
    rw [hc] at hlast
    exact (runF_parity r true 0).2 hlast
  have hsum : sumI (widths bs) = (core bs).length := by
    unfold widths; rw [hc, runF_sum]; simp
  have hpos : ∀ z ∈ widths bs, 1 ≤ z := by unfold widths; exact runF_pos _ _
  obtain ⟨_, hle⟩ := sumI_ge _ hpos
  have hin : inR (widths bs) = true := inR_of _ (fun z hz => ⟨hpos z hz, by have := hle z hz; omega⟩)
  refine ⟨?_, hodd⟩
  unfold modules
  rw [if_neg (by omega), if_neg (by omega), if_neg (by rw [hin]; simp), if_neg (by omega)]
  rw [modsI_eq]
  congr 1
  unfold widths
  rw [hc]
  have := modsC_runF r true 0
  simpa using this

theorem runF_rep : ∀ (j m : Nat) (x y : Bool) (t : List Bool), runF m (List.replicate (j + 1) x ++ y :: t) = if x = y then runF (m + j + 1) (y :: t) else ((m + j : Nat) + 1 : Int) :: runF 0 (y :: t)
  | 0, m, x, y, t => by simp [runF]
  | j + 1, m, x, y, t => by
    rw [List.replicate_succ, List.replicate_succ, List.cons_append, List.cons_append, runF, if_pos rfl]
    have := runF_rep j (m + 1) x y t
    rw [List.replicate_succ, List.cons_append] at this
    rw [this]
    split
    · rw [show m + 1 + j + 1 = m + (j + 1) + 1 by omega]
    · rw [show m + 1 + j = m + (j + 1) by omega]

theorem runF_rep1 : ∀ (j m : Nat) (x : Bool), runF m (List.replicate (j + 1) x) = [((m + j : Nat) : Int) + 1]
  | 0, m, x => by simp [runF]
  | j + 1, m, x => by
    rw [List.replicate_succ, List.replicate_succ, runF, if_pos rfl]
    have := runF_rep1 j (m + 1) x
    rw [List.replicate_succ] at this
    rw [this, show m + 1 + j = m + (j + 1) by omega]

theorem runF_str (k : Nat) : ∀ (r : List Bool) (x : Bool) (n : Nat), runF ((k + 1) * n) (strF (k + 1) (x :: r)) = (runF n (x :: r)).map (fun z => ((k + 1 : Nat) : Int) * z)
  | [], x, n => by
    simp only [strF, List.append_nil]
    rw [runF_rep1]
    simp only [runF, List.map_cons, List.map_nil]
    congr 1
  | y :: r, x, n => by
    have ih1 := runF_str k r y (n + 1)
    have ih0 := runF_str k r y 0
    rw [Nat.mul_zero] at ih0
    rw [strF]
    have hy : strF (k + 1) (y :: r) = y :: (List.replicate k y ++ strF (k + 1) r) := by rw [strF, List.replicate_succ]; rfl
    rw [hy, runF_rep, ← hy]
    rw [runF]
    split
    · rw [← ih1, show (k + 1) * n + k + 1 = (k + 1) * (n + 1) by rw [Nat.mul_add]; omega]
    · rw [ih0, List.map_cons]
      congr 1

theorem leadF_str (k : Nat) : ∀ (bs : List Bool), leadF 0 (strF (k + 1) bs) = (k + 1) * leadF 0 bs
  | [] => by simp [strF, leadF]
  | b :: r => by
    have ih := leadF_str k r
    cases b
    · have : ∀ (j m : Nat) (t : List Bool), leadF m (List.replicate j false ++ t) = leadF (m + j) t := by
        intro j
        induction j with
        | zero => intro m t; simp
        | succ j ihj => intro m t; rw [List.replicate_succ, List.cons_append, leadF]; simp only [Bool.false_eq_true, if_false]; rw [ihj, show m + 1 + j = m + (j + 1) by omega]
      rw [strF, this, leadF_eq, ih]
      simp only [leadF, Bool.false_eq_true, if_false]
      rw [leadF_eq r (0 + 1), Nat.mul_add]; omega
    · rw [strF, List.replicate_succ, List.cons_append]
      simp [leadF]

theorem strF_append (k : Nat) : ∀ (a b : List Bool), strF k (a ++ b) = strF k a ++ strF k b
  | [], b => rfl
  | x :: a, b => by simp [strF, strF_append k a b]

theorem strF_reverse (k : Nat) : ∀ (bs : List Bool), (strF k bs).reverse = strF k bs.reverse
  | [] => rfl
  | x :: r => by
    simp only [strF, List.reverse_append, List.reverse_cons, strF_append, strF_reverse k r]
    simp

theorem strF_take (k : Nat) : ∀ (bs : List Bool) (m : Nat), (strF k bs).take (k * m) = strF k (bs.take m)
  | [], m => by simp [strF]
  | x :: r, 0 => by simp [strF]
  | x :: r, m + 1 => by
    rw [List.take_succ_cons, strF, strF, List.take_append]
    rw [List.take_of_length_le (by simp [Nat.mul_add])]
    simp only [List.length_replicate]
    rw [show k * (m + 1) - k = k * m by rw [Nat.mul_add]; omega, strF_take k r m]

theorem strF_drop (k : Nat) : ∀ (bs : List Bool) (m : Nat), (strF k bs).drop (k * m) = strF k (bs.drop m)
  | [], m => by simp [strF]
  | x :: r, 0 => by simp
  | x :: r, m + 1 => by
    rw [List.drop_succ_cons, strF, List.drop_append]
    rw [List.drop_of_length_le (by simp [Nat.mul_add])]
    simp only [List.length_replicate, List.nil_append]
    rw [show k * (m + 1) - k = k * m by rw [Nat.mul_add]; omega, strF_drop k r m]

/-- The widths of a stretched row. -/
theorem widths_str (k : Nat) (bs : List Bool) : widths (strF (k + 1) bs) = (widths bs).map (fun z => ((k + 1 : Nat) : Int) * z) := by
  have hm : marg (strF (k + 1) bs) = ((k + 1) * (marg bs).1, (k + 1) * (marg bs).2) := by
    unfold marg; rw [strF_reverse, leadF_str, leadF_str]
  have hc : core (strF (k + 1) bs) = strF (k + 1) (core bs) := by
    unfold core
    rw [hm]
    simp only
    rw [strF_length, Nat.mul_comm bs.length, ← Nat.mul_sub, strF_take, strF_drop]
  unfold widths
  rw [hc]
  cases core bs with
  | nil => simp [strF, runF]
  | cons x r =>
    have := runF_str k r x 0
    rw [Nat.mul_zero] at this
    exact this

theorem shrF_rep (k : Nat) : ∀ (j i : Nat) (acc : List Bool) (x : Bool) (t : List Bool), acc.getLast? = some x → (∀ m, m < j → ¬ ((i + m : Nat) : Int) % ((k + 1 : Nat) : Int) = 0) →
    shrF ((k + 1 : Nat) : Int) i acc (List.replicate j x ++ t) = shrF ((k + 1 : Nat) : Int) (i + j) acc t
  | 0, i, acc, x, t, _, _ => by simp
  | j + 1, i, acc, x, t, hl, hm => by
    rw [List.replicate_succ, List.cons_append, shrF]
    rw [if_neg (by have := hm 0 (by omega); simpa using this), if_pos hl]
    rw [shrF_rep k j (i + 1) acc x t hl (fun m hmj => by have := hm (m + 1) (by omega); rw [show i + 1 + m = i + (m + 1) by omega]; exact this)]
    rw [show i + 1 + j = i + (j + 1) by omega]

theorem shrF_str (k : Nat) : ∀ (bs : List Bool) (j : Nat) (acc : List Bool), shrF ((k + 1 : Nat) : Int) ((k + 1) * j) acc (strF (k + 1) bs) = (acc ++ bs, 0)
  | [], j, acc => by simp [strF, shrF]
  | x :: r, j, acc => by
    rw [strF, List.replicate_succ, List.cons_append, shrF, if_pos (by rw [Int.natCast_mul]; exact Int.mul_emod_right _ _)]
    rw [shrF_rep k k _ _ x _ (by simp) (by
      intro m hm
      have e : (((k + 1) * j + 1 + m : Nat) : Int) = ((m + 1 : Nat) : Int) + ((k + 1 : Nat) : Int) * (j : Int) := by
        rw [← Int.natCast_mul]; omega
      rw [e, Int.add_mul_emod_self_left]
      rw [Int.emod_eq_of_lt (by omega) (by omega)]
      omega)]
    rw [show (k + 1) * j + 1 + k = (k + 1) * (j + 1) by rw [Nat.mul_add]; omega]
    rw [shrF_str k r (j + 1)]; simp

/-- Shrink inverts Stretch. -/
theorem shrink_str (k : Nat) (bs : List Bool) : shrink (strF (k + 1) bs) ((k + 1 : Nat) : Int) = (bs, 0) := by
  unfold shrink
  rw [if_neg (by omega), if_neg (by rw [strF_length, Int.natCast_mul]; simp)]
  have := shrF_str k bs 0 []
  rw [Nat.mul_zero] at this
  simpa using this

end Go.Proofs.Ytcihombiijjndaa
