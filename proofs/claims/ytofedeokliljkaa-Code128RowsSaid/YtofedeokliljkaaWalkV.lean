/-
  The walk of moves of package code128. Condition: fewer than 2^40 characters.
-/
import Derived.Test.YtofedeokliljkaaWalkQ
import Derived.Test.YtofedeokliljkaaMapF
namespace Go.Proofs.Ytofedeokliljkaa
open Go.RowKit

structure Mv where
  v : Int
  at_ : Int
  st : Int

def Mv.cells (m : Mv) : List Value := [.int .i64 m.v, .int .i64 m.at_, .int .i64 m.st]

def flatM : List Mv → List Value
  | [] => []
  | m :: r => m.cells ++ flatM r

theorem flatM_append : ∀ (a b : List Mv), flatM (a ++ b) = flatM a ++ flatM b
  | [], b => rfl
  | m :: a, b => by simp [flatM, flatM_append a b]

theorem below_app3 {B e size n : Nat} {w wr w1 : World} {o : Obj} {v : Value} {xs : List Value} (hB : Below B w wr) (hs : B ≤ wr.heap.size) (hown : wr.ownsRow B e size v n xs)
    (hg : (wr.alloc o).grownBy w1 v.ownBlock) : Below B w w1 := by
  refine (hB.alloc hs o).grown hg (by simp; omega) ?_
  intro k hk
  rcases hown.2 with ⟨rfl, _⟩ | ⟨g, cap, cur, rfl, hg', _⟩
  · simp [Value.ownBlock] at hk
  · simp [Value.ownBlock] at hk; omega

theorem own_congr3 {B e size n n' : Nat} {w : World} {v : Value} {xs xs' : List Value} (h : w.ownsRow B e size v n xs) (hn : n = n') (hx : xs = xs') : w.ownsRow B e size v n' xs' := by
  subst hn; subst hx; exact h

theorem cells_new2 {e : Nat} (w : World) (xs : List Value) (n : Nat) (hn : n = w.heap.size) : ∀ j u, xs[j]? = some u → (w.alloc (.cells xs.toArray e)).cell? ((⟨n, 0, none⟩ : Addr).add j) = some u := by
  subst hn; exact cells_new w xs

theorem info59 : (Try.prog.info? 59).map (fun i => (i.zero, i.size, i.bytes)) = some (some (.agg #[.int .i64 0, .int .i64 0, .int .i64 0]), 3, 24) := by kernel_rfl

/-- The value of the character itself in a code set. -/
def ownV (c st : Int) : Int × Bool := if 256 ≤ c then funF c st else valF c st

def tailM (c at_ st : Int) : List Mv := if (ownV c st).2 = true then [⟨(ownV c st).1, at_ + 1, st⟩] else []

/-- The moves from a node; d: what follows, if two digits lie here. -/
def movesL (cs : List Int) (k : Nat) (st : Int) : List Mv :=
  let c := cs.getD k 0
  if st = 0 then (if (valF c 2).2 = true then [⟨(valF c 2).1, (k : Int) + 1, 3⟩] else [])
  else if st = 1 then (if (valF c 3).2 = true then [⟨(valF c 3).1, (k : Int) + 1, 2⟩] else [])
  else if st = 2 then [⟨98, k, 1⟩, ⟨99, k, 4⟩, ⟨100, k, 3⟩] ++ tailM c k 2
  else if st = 3 then [⟨98, k, 0⟩, ⟨99, k, 4⟩, ⟨101, k, 2⟩] ++ tailM c k 3
  else [⟨100, k, 3⟩, ⟨101, k, 2⟩] ++ (if k + 1 < cs.length ∧ digB c = true ∧ digB (cs.getD (k + 1) 0) = true then [⟨10 * (c - 48) + cs.getD (k + 1) 0 - 48, (k : Int) + 2, 4⟩] else []) ++ tailM c k 4

def RetM (ms : List Mv) (w : World) (e : Ending) (w' : World) : Prop :=
  ∃ v, e = .returned v ∧ w'.ownsRow w.heap.size 59 3 v ms.length (flatM ms) ∧ Below w.heap.size w w'

set_option maxRecDepth 100000 in
set_option maxHeartbeats 2000000 in
theorem moves_0 (a : Option Addr) (n cap k : Nat) (cs : List Int) (w : World) (h : RdI w a n cs) (hk : k < n) (hn : n ≤ 1099511627776) (hc : ∀ c ∈ cs, 0 ≤ c ∧ c ≤ 500) :
    Calls Try.prog 38 #[.slice a n cap, .agg #[.int .i64 k, .int .i64 0]] w (RetM (movesL cs k 0) w) := by
  obtain ⟨i59, hi59, hz59a, hz59b, hz59c⟩ := info_parts info59
  obtain ⟨b, off, c, rfl, hcell, hd⟩ := h.at k hk
  have hcc := hc c (List.mem_of_mem_drop (by rw [hd]; simp))
  have hcg : cs.getD k 0 = c := by rw [List.getD_eq_getElem?_getD, getElem?_of_drop hd]; rfl
  obtain ⟨hc0, hc1⟩ := hcc
  have hv := fun W => valueOf_any c 2 W hc0 (by omega)
  have hml : movesL cs k 0 = if (valF c 2).2 = true then [⟨(valF c 2).1, (k : Int) + 1, 3⟩] else [] := by unfold movesL; simp only [hcg]; simp
  have HM := Lib.hid hml; have HV := Lib.hid hv
  have hbl := lt_of_cell hcell
  have hcell2 : (w.alloc (.cells #[.int .i64 k, .int .i64 0] 57)).cell? ⟨b, off + k, none⟩ = some (.int .i64 c) := by rw [World.cell?_alloc_past _ _ _ hbl]; exact hcell
  clear hml hv hd hcg
  generalize valF c 2 = q at *
  obtain ⟨qv, qb⟩ := q
  have hB0 : Below w.heap.size w (w.alloc (.cells #[.int .i64 k, .int .i64 0] 57)) := (Below.refl _ _).alloc (Nat.le_refl _) _
  cases qb with
  | false =>
    go_enter Try.func38, Try.ntmps38
    go_wp2_with fail
    refine (HV.out _).mono ?_
    rintro e w' ⟨rfl, rfl⟩
    go_wp2
    go_ret
    rw [HM.out, if_neg (by simp)]
    exact ⟨_, rfl, World.ownsRow_nil _ _ _ _, hB0⟩
  | true =>
    go_enter Try.func38, Try.ntmps38
    go_wp2_with fail
    refine (HV.out _).mono ?_
    rintro e w' ⟨rfl, rfl⟩
    go_wp2_with (at_builtin; refine wpList_append_own _ rfl _ _ 60 rfl w.heap.size 59 i59 (.agg #[.int .i64 0, .int .i64 0, .int .i64 0]) 3 24 Try.underlying60 hi59 hz59a hz59b hz59c rfl (by decide) _ 0 ([]) rfl ((World.ownsRow_nil (w.alloc (.cells #[.int .i64 k, .int .i64 0] 57)) w.heap.size 59 3).alloc _) ⟨w.heap.size + 1, 0, none⟩ 1 1 ([.int .i64 qv, .int .i64 ((k : Int) + 1), .int .i64 3]) rfl rfl (cells_new2 _ _ _ (by simp)) (by simp [Value.oneCell']) ?c3 ?c4 ?c5 ?_)
    case c3 => unfold maxLen; omega
    case c4 => omega
    case c5 => simp; omega
    intro v' w1 hown' hgrow _
    have hB3 := below_app3 hB0 hB0.size (World.ownsRow_nil _ w.heap.size 59 3) hgrow
    clear hgrow
    go_wp2
    go_ret
    rw [HM.out, if_pos (by simp)]
    exact ⟨_, rfl, own_congr3 hown' rfl rfl, hB3⟩

set_option maxRecDepth 100000 in
set_option maxHeartbeats 2000000 in
theorem moves_1 (a : Option Addr) (n cap k : Nat) (cs : List Int) (w : World) (h : RdI w a n cs) (hk : k < n) (hn : n ≤ 1099511627776) (hc : ∀ c ∈ cs, 0 ≤ c ∧ c ≤ 500) :
    Calls Try.prog 38 #[.slice a n cap, .agg #[.int .i64 k, .int .i64 1]] w (RetM (movesL cs k 1) w) := by
  obtain ⟨i59, hi59, hz59a, hz59b, hz59c⟩ := info_parts info59
  obtain ⟨b, off, c, rfl, hcell, hd⟩ := h.at k hk
  have hcc := hc c (List.mem_of_mem_drop (by rw [hd]; simp))
  have hcg : cs.getD k 0 = c := by rw [List.getD_eq_getElem?_getD, getElem?_of_drop hd]; rfl
  obtain ⟨hc0, hc1⟩ := hcc
  have hv := fun W => valueOf_any c 3 W hc0 (by omega)
  have hml : movesL cs k 1 = if (valF c 3).2 = true then [⟨(valF c 3).1, (k : Int) + 1, 2⟩] else [] := by unfold movesL; simp only [hcg]; simp
  have HM := Lib.hid hml; have HV := Lib.hid hv
  have hbl := lt_of_cell hcell
  have hcell2 : (w.alloc (.cells #[.int .i64 k, .int .i64 1] 57)).cell? ⟨b, off + k, none⟩ = some (.int .i64 c) := by rw [World.cell?_alloc_past _ _ _ hbl]; exact hcell
  clear hml hv hd hcg
  generalize valF c 3 = q at *
  obtain ⟨qv, qb⟩ := q
  have hB0 : Below w.heap.size w (w.alloc (.cells #[.int .i64 k, .int .i64 1] 57)) := (Below.refl _ _).alloc (Nat.le_refl _) _
  cases qb with
  | false =>
    go_enter Try.func38, Try.ntmps38
    go_wp2_with fail
    refine (HV.out _).mono ?_
    rintro e w' ⟨rfl, rfl⟩
    go_wp2
    go_ret
    rw [HM.out, if_neg (by simp)]
    exact ⟨_, rfl, World.ownsRow_nil _ _ _ _, hB0⟩
  | true =>
    go_enter Try.func38, Try.ntmps38
    go_wp2_with fail
    refine (HV.out _).mono ?_
    rintro e w' ⟨rfl, rfl⟩
    go_wp2_with (at_builtin; refine wpList_append_own _ rfl _ _ 60 rfl w.heap.size 59 i59 (.agg #[.int .i64 0, .int .i64 0, .int .i64 0]) 3 24 Try.underlying60 hi59 hz59a hz59b hz59c rfl (by decide) _ 0 ([]) rfl ((World.ownsRow_nil (w.alloc (.cells #[.int .i64 k, .int .i64 1] 57)) w.heap.size 59 3).alloc _) ⟨w.heap.size + 1, 0, none⟩ 1 1 ([.int .i64 qv, .int .i64 ((k : Int) + 1), .int .i64 2]) rfl rfl (cells_new2 _ _ _ (by simp)) (by simp [Value.oneCell']) ?c3 ?c4 ?c5 ?_)
    case c3 => unfold maxLen; omega
    case c4 => omega
    case c5 => simp; omega
    intro v' w1 hown' hgrow _
    have hB3 := below_app3 hB0 hB0.size (World.ownsRow_nil _ w.heap.size 59 3) hgrow
    clear hgrow
    go_wp2
    go_ret
    rw [HM.out, if_pos (by simp)]
    exact ⟨_, rfl, own_congr3 hown' rfl rfl, hB3⟩

set_option maxRecDepth 100000 in
set_option maxHeartbeats 4000000 in
theorem moves_2 (a : Option Addr) (n cap k : Nat) (cs : List Int) (w : World) (h : RdI w a n cs) (hk : k < n) (hn : n ≤ 1099511627776) (hc : ∀ c ∈ cs, 0 ≤ c ∧ c ≤ 500) :
    Calls Try.prog 38 #[.slice a n cap, .agg #[.int .i64 k, .int .i64 2]] w (RetM (movesL cs k 2) w) := by
  obtain ⟨i59, hi59, hz59a, hz59b, hz59c⟩ := info_parts info59
  obtain ⟨b, off, c, rfl, hcell, hd⟩ := h.at k hk
  have hcc := hc c (List.mem_of_mem_drop (by rw [hd]; simp))
  have hcg : cs.getD k 0 = c := by rw [List.getD_eq_getElem?_getD, getElem?_of_drop hd]; rfl
  obtain ⟨hc0, hc1⟩ := hcc
  have hbl := lt_of_cell hcell
  have hcell2 : (w.alloc (.cells #[.int .i64 k, .int .i64 2] 57)).cell? ⟨b, off + k, none⟩ = some (.int .i64 c) := by rw [World.cell?_alloc_past _ _ _ hbl]; exact hcell
  have hB0 : Below w.heap.size w (w.alloc (.cells #[.int .i64 k, .int .i64 2] 57)) := (Below.refl _ _).alloc (Nat.le_refl _) _
  have hml : movesL cs k 2 = [⟨98, k, 1⟩, ⟨99, k, 4⟩, ⟨100, k, 3⟩] ++ tailM c k 2 := by unfold movesL; simp only [hcg]; simp
  have HM := Lib.hid hml
  clear hml hd hcg
  go_enter Try.func38, Try.ntmps38
  go_wp2_with (at_builtin; refine wpList_append_own _ rfl _ _ 60 rfl w.heap.size 59 i59 (.agg #[.int .i64 0, .int .i64 0, .int .i64 0]) 3 24 Try.underlying60 hi59 hz59a hz59b hz59c rfl (by decide) _ 0 ([]) rfl ((World.ownsRow_nil (w.alloc (.cells #[.int .i64 k, .int .i64 2] 57)) w.heap.size 59 3).alloc _) ⟨w.heap.size + 1, 0, none⟩ 3 3 ([.int .i64 98, .int .i64 (k : Int), .int .i64 1, .int .i64 99, .int .i64 (k : Int), .int .i64 4, .int .i64 100, .int .i64 (k : Int), .int .i64 3]) rfl rfl (cells_new2 _ _ _ (by simp)) (by simp [Value.oneCell']) (by unfold maxLen; omega) (by omega) (by simp; omega) ?_)
  intro v1 w1 hown1 hgrow1 _
  have hB1 := below_app3 hB0 hB0.size (World.ownsRow_nil _ w.heap.size 59 3) hgrow1
  have hbx : w1.heap[w.heap.size]? = some (.cells #[.int .i64 k, .int .i64 2] 57 (0, 0)) := by
    rw [hgrow1.block w.heap.size (by simp; omega) (by simp [Value.ownBlock]), Below.heap_alloc _ _ _ (by simp)]
    exact World.alloc_heap_new w _
  have hst : w1.cell? ⟨w.heap.size, 1, none⟩ = some (.int .i64 2) := by simp [World.cell?, hbx]
  have hown1 : w1.ownsRow w.heap.size 59 3 v1 3 (flatM [⟨98, k, 1⟩, ⟨99, k, 4⟩, ⟨100, k, 3⟩]) := hown1
  clear hgrow1 hbx
  go_wp2_with fail
  refine (valueOf_any c 2 _ hc0 (by omega)).mono ?_
  rintro e w' ⟨rfl, rfl⟩
  by_cases hbig : 256 ≤ c
  · have hdb : decide (256 ≤ c) = true := by simpa using hbig
    have hov : ownV c 2 = funF c 2 := by unfold ownV; rw [if_pos hbig]
    generalize valF c 2 = q0 at *
    obtain ⟨q0v, q0b⟩ := q0
    go_wp2_with fail
    refine (functionValue_any c 2 _ hc0 (by omega)).mono ?_
    rintro e w' ⟨rfl, rfl⟩
    generalize funF c 2 = q at *
    have HO := Lib.hid hov; clear hov
    obtain ⟨qv, qb⟩ := q
    cases qb with
    | false =>
      have HT : Hid (tailM c k 2 = []) := by unfold tailM; rw [HO.out]; rfl
      go_wp2
      go_ret
      rw [HM.out, HT.out]
      exact ⟨_, rfl, own_congr3 hown1 (by simp) (by simp [flatM]), hB1⟩
    | true =>
      have HT : Hid (tailM c k 2 = [⟨qv, (k : Int) + 1, 2⟩]) := by unfold tailM; rw [HO.out]; rfl
      go_wp2_with (at_builtin; refine wpList_append_own _ rfl _ _ 60 rfl w.heap.size 59 i59 (.agg #[.int .i64 0, .int .i64 0, .int .i64 0]) 3 24 Try.underlying60 hi59 hz59a hz59b hz59c rfl (by decide) _ 3 (flatM ([⟨98, k, 1⟩, ⟨99, k, 4⟩, ⟨100, k, 3⟩])) rfl (hown1.alloc _) ⟨w1.heap.size, 0, none⟩ 1 1 ([.int .i64 qv, .int .i64 ((k : Int) + 1), .int .i64 2]) rfl rfl (cells_new2 _ _ _ (by simp)) (by simp [Value.oneCell']) ?c3 ?c4 ?c5 ?_)
      case c3 => unfold maxLen; omega
      case c4 => omega
      case c5 => have := hB1.size; simp; omega
      intro v9 w9 hown9 hgrow9 _
      have hB9 := below_app3 hB1 hB1.size hown1 hgrow9
      clear hgrow9
      go_wp2
      go_ret
      rw [HM.out, HT.out]
      exact ⟨_, rfl, own_congr3 hown9 (by simp) (by simp [flatM, Mv.cells]), hB9⟩
  · have hdb : decide (256 ≤ c) = false := by simpa using hbig
    have hov : ownV c 2 = valF c 2 := by unfold ownV; rw [if_neg hbig]
    generalize valF c 2 = q at *
    have HO := Lib.hid hov; clear hov
    obtain ⟨qv, qb⟩ := q
    cases qb with
    | false =>
      have HT : Hid (tailM c k 2 = []) := by unfold tailM; rw [HO.out]; rfl
      go_wp2
      go_ret
      rw [HM.out, HT.out]
      exact ⟨_, rfl, own_congr3 hown1 (by simp) (by simp [flatM]), hB1⟩
    | true =>
      have HT : Hid (tailM c k 2 = [⟨qv, (k : Int) + 1, 2⟩]) := by unfold tailM; rw [HO.out]; rfl
      go_wp2_with (at_builtin; refine wpList_append_own _ rfl _ _ 60 rfl w.heap.size 59 i59 (.agg #[.int .i64 0, .int .i64 0, .int .i64 0]) 3 24 Try.underlying60 hi59 hz59a hz59b hz59c rfl (by decide) _ 3 (flatM ([⟨98, k, 1⟩, ⟨99, k, 4⟩, ⟨100, k, 3⟩])) rfl (hown1.alloc _) ⟨w1.heap.size, 0, none⟩ 1 1 ([.int .i64 qv, .int .i64 ((k : Int) + 1), .int .i64 2]) rfl rfl (cells_new2 _ _ _ (by simp)) (by simp [Value.oneCell']) ?c3 ?c4 ?c5 ?_)
      case c3 => unfold maxLen; omega
      case c4 => omega
      case c5 => have := hB1.size; simp; omega
      intro v9 w9 hown9 hgrow9 _
      have hB9 := below_app3 hB1 hB1.size hown1 hgrow9
      clear hgrow9
      go_wp2
      go_ret
      rw [HM.out, HT.out]
      exact ⟨_, rfl, own_congr3 hown9 (by simp) (by simp [flatM, Mv.cells]), hB9⟩

set_option maxRecDepth 100000 in
set_option maxHeartbeats 4000000 in
theorem moves_3 (a : Option Addr) (n cap k : Nat) (cs : List Int) (w : World) (h : RdI w a n cs) (hk : k < n) (hn : n ≤ 1099511627776) (hc : ∀ c ∈ cs, 0 ≤ c ∧ c ≤ 500) :
    Calls Try.prog 38 #[.slice a n cap, .agg #[.int .i64 k, .int .i64 3]] w (RetM (movesL cs k 3) w) := by
  obtain ⟨i59, hi59, hz59a, hz59b, hz59c⟩ := info_parts info59
  obtain ⟨b, off, c, rfl, hcell, hd⟩ := h.at k hk
  have hcc := hc c (List.mem_of_mem_drop (by rw [hd]; simp))
  have hcg : cs.getD k 0 = c := by rw [List.getD_eq_getElem?_getD, getElem?_of_drop hd]; rfl
  obtain ⟨hc0, hc1⟩ := hcc
  have hbl := lt_of_cell hcell
  have hcell2 : (w.alloc (.cells #[.int .i64 k, .int .i64 3] 57)).cell? ⟨b, off + k, none⟩ = some (.int .i64 c) := by rw [World.cell?_alloc_past _ _ _ hbl]; exact hcell
  have hB0 : Below w.heap.size w (w.alloc (.cells #[.int .i64 k, .int .i64 3] 57)) := (Below.refl _ _).alloc (Nat.le_refl _) _
  have hml : movesL cs k 3 = [⟨98, k, 0⟩, ⟨99, k, 4⟩, ⟨101, k, 2⟩] ++ tailM c k 3 := by unfold movesL; simp only [hcg]; simp
  have HM := Lib.hid hml
  clear hml hd hcg
  go_enter Try.func38, Try.ntmps38
  go_wp2_with (at_builtin; refine wpList_append_own _ rfl _ _ 60 rfl w.heap.size 59 i59 (.agg #[.int .i64 0, .int .i64 0, .int .i64 0]) 3 24 Try.underlying60 hi59 hz59a hz59b hz59c rfl (by decide) _ 0 ([]) rfl ((World.ownsRow_nil (w.alloc (.cells #[.int .i64 k, .int .i64 3] 57)) w.heap.size 59 3).alloc _) ⟨w.heap.size + 1, 0, none⟩ 3 3 ([.int .i64 98, .int .i64 (k : Int), .int .i64 0, .int .i64 99, .int .i64 (k : Int), .int .i64 4, .int .i64 101, .int .i64 (k : Int), .int .i64 2]) rfl rfl (cells_new2 _ _ _ (by simp)) (by simp [Value.oneCell']) (by unfold maxLen; omega) (by omega) (by simp; omega) ?_)
  intro v1 w1 hown1 hgrow1 _
  have hB1 := below_app3 hB0 hB0.size (World.ownsRow_nil _ w.heap.size 59 3) hgrow1
  have hbx : w1.heap[w.heap.size]? = some (.cells #[.int .i64 k, .int .i64 3] 57 (0, 0)) := by
    rw [hgrow1.block w.heap.size (by simp; omega) (by simp [Value.ownBlock]), Below.heap_alloc _ _ _ (by simp)]
    exact World.alloc_heap_new w _
  have hst : w1.cell? ⟨w.heap.size, 1, none⟩ = some (.int .i64 3) := by simp [World.cell?, hbx]
  have hown1 : w1.ownsRow w.heap.size 59 3 v1 3 (flatM [⟨98, k, 0⟩, ⟨99, k, 4⟩, ⟨101, k, 2⟩]) := hown1
  clear hgrow1 hbx
  go_wp2_with fail
  refine (valueOf_any c 3 _ hc0 (by omega)).mono ?_
  rintro e w' ⟨rfl, rfl⟩
  by_cases hbig : 256 ≤ c
  · have hdb : decide (256 ≤ c) = true := by simpa using hbig
    have hov : ownV c 3 = funF c 3 := by unfold ownV; rw [if_pos hbig]
    generalize valF c 3 = q0 at *
    obtain ⟨q0v, q0b⟩ := q0
    go_wp2_with fail
    refine (functionValue_any c 3 _ hc0 (by omega)).mono ?_
    rintro e w' ⟨rfl, rfl⟩
    generalize funF c 3 = q at *
    have HO := Lib.hid hov; clear hov
    obtain ⟨qv, qb⟩ := q
    cases qb with
    | false =>
      have HT : Hid (tailM c k 3 = []) := by unfold tailM; rw [HO.out]; rfl
      go_wp2
      go_ret
      rw [HM.out, HT.out]
      exact ⟨_, rfl, own_congr3 hown1 (by simp) (by simp [flatM]), hB1⟩
    | true =>
      have HT : Hid (tailM c k 3 = [⟨qv, (k : Int) + 1, 3⟩]) := by unfold tailM; rw [HO.out]; rfl
      go_wp2_with (at_builtin; refine wpList_append_own _ rfl _ _ 60 rfl w.heap.size 59 i59 (.agg #[.int .i64 0, .int .i64 0, .int .i64 0]) 3 24 Try.underlying60 hi59 hz59a hz59b hz59c rfl (by decide) _ 3 (flatM ([⟨98, k, 0⟩, ⟨99, k, 4⟩, ⟨101, k, 2⟩])) rfl (hown1.alloc _) ⟨w1.heap.size, 0, none⟩ 1 1 ([.int .i64 qv, .int .i64 ((k : Int) + 1), .int .i64 3]) rfl rfl (cells_new2 _ _ _ (by simp)) (by simp [Value.oneCell']) ?c3 ?c4 ?c5 ?_)
      case c3 => unfold maxLen; omega
      case c4 => omega
      case c5 => have := hB1.size; simp; omega
      intro v9 w9 hown9 hgrow9 _
      have hB9 := below_app3 hB1 hB1.size hown1 hgrow9
      clear hgrow9
      go_wp2
      go_ret
      rw [HM.out, HT.out]
      exact ⟨_, rfl, own_congr3 hown9 (by simp) (by simp [flatM, Mv.cells]), hB9⟩
  · have hdb : decide (256 ≤ c) = false := by simpa using hbig
    have hov : ownV c 3 = valF c 3 := by unfold ownV; rw [if_neg hbig]
    generalize valF c 3 = q at *
    have HO := Lib.hid hov; clear hov
    obtain ⟨qv, qb⟩ := q
    cases qb with
    | false =>
      have HT : Hid (tailM c k 3 = []) := by unfold tailM; rw [HO.out]; rfl
      go_wp2
      go_ret
      rw [HM.out, HT.out]
      exact ⟨_, rfl, own_congr3 hown1 (by simp) (by simp [flatM]), hB1⟩
    | true =>
      have HT : Hid (tailM c k 3 = [⟨qv, (k : Int) + 1, 3⟩]) := by unfold tailM; rw [HO.out]; rfl
      go_wp2_with (at_builtin; refine wpList_append_own _ rfl _ _ 60 rfl w.heap.size 59 i59 (.agg #[.int .i64 0, .int .i64 0, .int .i64 0]) 3 24 Try.underlying60 hi59 hz59a hz59b hz59c rfl (by decide) _ 3 (flatM ([⟨98, k, 0⟩, ⟨99, k, 4⟩, ⟨101, k, 2⟩])) rfl (hown1.alloc _) ⟨w1.heap.size, 0, none⟩ 1 1 ([.int .i64 qv, .int .i64 ((k : Int) + 1), .int .i64 3]) rfl rfl (cells_new2 _ _ _ (by simp)) (by simp [Value.oneCell']) ?c3 ?c4 ?c5 ?_)
      case c3 => unfold maxLen; omega
      case c4 => omega
      case c5 => have := hB1.size; simp; omega
      intro v9 w9 hown9 hgrow9 _
      have hB9 := below_app3 hB1 hB1.size hown1 hgrow9
      clear hgrow9
      go_wp2
      go_ret
      rw [HM.out, HT.out]
      exact ⟨_, rfl, own_congr3 hown9 (by simp) (by simp [flatM, Mv.cells]), hB9⟩

set_option maxRecDepth 100000 in
set_option maxHeartbeats 4000000 in
theorem moves_4 (a : Option Addr) (n cap k : Nat) (cs : List Int) (w : World) (h : RdI w a n cs) (hk : k < n) (hn : n ≤ 1099511627776) (hc : ∀ c ∈ cs, 0 ≤ c ∧ c ≤ 500) :
    Calls Try.prog 38 #[.slice a n cap, .agg #[.int .i64 k, .int .i64 4]] w (RetM (movesL cs k 4) w) := by
  obtain ⟨i59, hi59, hz59a, hz59b, hz59c⟩ := info_parts info59
  obtain ⟨b, off, c, rfl, hcell, hd⟩ := h.at k hk
  have hcc := hc c (List.mem_of_mem_drop (by rw [hd]; simp))
  have hcg : cs.getD k 0 = c := by rw [List.getD_eq_getElem?_getD, getElem?_of_drop hd]; rfl
  obtain ⟨hc0, hc1⟩ := hcc
  have hbl := lt_of_cell hcell
  have hcell2 : (w.alloc (.cells #[.int .i64 k, .int .i64 4] 57)).cell? ⟨b, off + k, none⟩ = some (.int .i64 c) := by rw [World.cell?_alloc_past _ _ _ hbl]; exact hcell
  have hB0 : Below w.heap.size w (w.alloc (.cells #[.int .i64 k, .int .i64 4] 57)) := (Below.refl _ _).alloc (Nat.le_refl _) _
  have hml : movesL cs k 4 = [⟨100, k, 3⟩, ⟨101, k, 2⟩] ++ (if k + 1 < cs.length ∧ digB c = true ∧ digB (cs.getD (k + 1) 0) = true then [⟨10 * (c - 48) + cs.getD (k + 1) 0 - 48, (k : Int) + 2, 4⟩] else []) ++ tailM c k 4 := by unfold movesL; simp only [hcg]; simp
  rw [h.length] at hml
  have H := Lib.hid h; have HC := Lib.hid hc
  have HML := Lib.hid hml
  clear hml hd hcg h hc
  by_cases hk1 : k + 1 < n
  · obtain ⟨b', off', c2, e2, hcl2, hd2⟩ := H.out.at (k + 1) hk1
    cases e2
    have hcc2 := HC.out c2 (List.mem_of_mem_drop (by rw [hd2]; simp))
    have hcg2 : cs.getD (k + 1) 0 = c2 := by rw [List.getD_eq_getElem?_getD, getElem?_of_drop hd2]; rfl
    obtain ⟨hc20, hc21⟩ := hcc2
    have hml2 := HML.out
    rw [hcg2] at hml2
    have HML2 := Lib.hid hml2
    clear hml2 hd2 hcg2
    have hg1 : decide ((k : Int) + 1 < (n : Int)) = true := by simp; omega
    go_enter Try.func38, Try.ntmps38
    go_wp2_with (at_builtin; refine wpList_append_own _ rfl _ _ 60 rfl w.heap.size 59 i59 (.agg #[.int .i64 0, .int .i64 0, .int .i64 0]) 3 24 Try.underlying60 hi59 hz59a hz59b hz59c rfl (by decide) _ 0 ([]) rfl ((World.ownsRow_nil (w.alloc (.cells #[.int .i64 k, .int .i64 4] 57)) w.heap.size 59 3).alloc _) ⟨w.heap.size + 1, 0, none⟩ 2 2 ([.int .i64 100, .int .i64 (k : Int), .int .i64 3, .int .i64 101, .int .i64 (k : Int), .int .i64 2]) rfl rfl (cells_new2 _ _ _ (by simp)) (by simp [Value.oneCell']) (by unfold maxLen; omega) (by omega) (by simp; omega) ?_)
    intro v1 w1 hown1 hgrow1 _
    have hB1 := below_app3 hB0 hB0.size (World.ownsRow_nil _ w.heap.size 59 3) hgrow1
    have hbx : w1.heap[w.heap.size]? = some (.cells #[.int .i64 k, .int .i64 4] 57 (0, 0)) := by
      rw [hgrow1.block w.heap.size (by simp; omega) (by simp [Value.ownBlock]), Below.heap_alloc _ _ _ (by simp)]
      exact World.alloc_heap_new w _
    have hst : w1.cell? ⟨w.heap.size, 1, none⟩ = some (.int .i64 4) := by simp [World.cell?, hbx]
    have hown1 : w1.ownsRow w.heap.size 59 3 v1 2 (flatM [⟨100, k, 3⟩, ⟨101, k, 2⟩]) := hown1
    have HBX := Lib.hid hbx
    clear hgrow1 hbx
    have hcl3 : w1.cell? ⟨b, off + (k + 1), none⟩ = some (.int .i64 c2) := (hB1.cell (p := ⟨b, off + (k + 1), none⟩) (lt_of_cell hcl2)).trans hcl2
    go_wp2_with fail
    refine (digit_any c _).mono ?_
    rintro e w' ⟨rfl, rfl⟩
    cases hdc : digB c with
    | false =>
      have hm : movesL cs k 4 = [⟨100, k, 3⟩, ⟨101, k, 2⟩] ++ tailM c k 4 := by rw [HML2.out, if_neg (by rw [hdc]; simp)]; simp
      have HM := Lib.hid hm; clear hm hdc
      go_wp2_with fail
      refine (valueOf_any c 4 _ hc0 (by omega)).mono ?_
      rintro e w' ⟨rfl, rfl⟩
      by_cases hbig : 256 ≤ c
      · have hdb : decide (256 ≤ c) = true := by simpa using hbig
        have hov : ownV c 4 = funF c 4 := by unfold ownV; rw [if_pos hbig]
        generalize valF c 4 = q0 at *
        obtain ⟨q0v, q0b⟩ := q0
        go_wp2_with fail
        refine (functionValue_any c 4 _ hc0 (by omega)).mono ?_
        rintro e w' ⟨rfl, rfl⟩
        generalize funF c 4 = q at *
        have HO := Lib.hid hov; clear hov
        obtain ⟨qv, qb⟩ := q
        cases qb with
        | false =>
          have HT : Hid (tailM c k 4 = []) := by unfold tailM; rw [HO.out]; rfl
          go_wp2
          go_ret
          rw [HM.out, HT.out]
          exact ⟨_, rfl, own_congr3 hown1 (by simp) (by simp [flatM]), hB1⟩
        | true =>
          have HT : Hid (tailM c k 4 = [⟨qv, (k : Int) + 1, 4⟩]) := by unfold tailM; rw [HO.out]; rfl
          go_wp2_with (at_builtin; refine wpList_append_own _ rfl _ _ 60 rfl w.heap.size 59 i59 (.agg #[.int .i64 0, .int .i64 0, .int .i64 0]) 3 24 Try.underlying60 hi59 hz59a hz59b hz59c rfl (by decide) _ 2 (flatM ([⟨100, k, 3⟩, ⟨101, k, 2⟩])) rfl (hown1.alloc _) ⟨w1.heap.size, 0, none⟩ 1 1 ([.int .i64 qv, .int .i64 ((k : Int) + 1), .int .i64 4]) rfl rfl (cells_new2 _ _ _ (by simp)) (by simp [Value.oneCell']) ?c3 ?c4 ?c5 ?_)
          case c3 => unfold maxLen; omega
          case c4 => omega
          case c5 => have := hB1.size; simp; omega
          intro v9 w9 hown9 hgrow9 _
          have hB9 := below_app3 hB1 hB1.size hown1 hgrow9
          clear hgrow9
          go_wp2
          go_ret
          rw [HM.out, HT.out]
          exact ⟨_, rfl, own_congr3 hown9 (by simp) (by simp [flatM, Mv.cells]), hB9⟩
      · have hdb : decide (256 ≤ c) = false := by simpa using hbig
        have hov : ownV c 4 = valF c 4 := by unfold ownV; rw [if_neg hbig]
        generalize valF c 4 = q at *
        have HO := Lib.hid hov; clear hov
        obtain ⟨qv, qb⟩ := q
        cases qb with
        | false =>
          have HT : Hid (tailM c k 4 = []) := by unfold tailM; rw [HO.out]; rfl
          go_wp2
          go_ret
          rw [HM.out, HT.out]
          exact ⟨_, rfl, own_congr3 hown1 (by simp) (by simp [flatM]), hB1⟩
        | true =>
          have HT : Hid (tailM c k 4 = [⟨qv, (k : Int) + 1, 4⟩]) := by unfold tailM; rw [HO.out]; rfl
          go_wp2_with (at_builtin; refine wpList_append_own _ rfl _ _ 60 rfl w.heap.size 59 i59 (.agg #[.int .i64 0, .int .i64 0, .int .i64 0]) 3 24 Try.underlying60 hi59 hz59a hz59b hz59c rfl (by decide) _ 2 (flatM ([⟨100, k, 3⟩, ⟨101, k, 2⟩])) rfl (hown1.alloc _) ⟨w1.heap.size, 0, none⟩ 1 1 ([.int .i64 qv, .int .i64 ((k : Int) + 1), .int .i64 4]) rfl rfl (cells_new2 _ _ _ (by simp)) (by simp [Value.oneCell']) ?c3 ?c4 ?c5 ?_)
          case c3 => unfold maxLen; omega
          case c4 => omega
          case c5 => have := hB1.size; simp; omega
          intro v9 w9 hown9 hgrow9 _
          have hB9 := below_app3 hB1 hB1.size hown1 hgrow9
          clear hgrow9
          go_wp2
          go_ret
          rw [HM.out, HT.out]
          exact ⟨_, rfl, own_congr3 hown9 (by simp) (by simp [flatM, Mv.cells]), hB9⟩
    | true =>
      go_wp2_with fail
      refine (digit_any c2 _).mono ?_
      rintro e w' ⟨rfl, rfl⟩
      cases hdc2 : digB c2 with
      | false =>
        have hm : movesL cs k 4 = [⟨100, k, 3⟩, ⟨101, k, 2⟩] ++ tailM c k 4 := by rw [HML2.out, if_neg (by rw [hdc2]; simp)]; simp
        have HM := Lib.hid hm; clear hm hdc hdc2
        go_wp2_with fail
        refine (valueOf_any c 4 _ hc0 (by omega)).mono ?_
        rintro e w' ⟨rfl, rfl⟩
        by_cases hbig : 256 ≤ c
        · have hdb : decide (256 ≤ c) = true := by simpa using hbig
          have hov : ownV c 4 = funF c 4 := by unfold ownV; rw [if_pos hbig]
          generalize valF c 4 = q0 at *
          obtain ⟨q0v, q0b⟩ := q0
          go_wp2_with fail
          refine (functionValue_any c 4 _ hc0 (by omega)).mono ?_
          rintro e w' ⟨rfl, rfl⟩
          generalize funF c 4 = q at *
          have HO := Lib.hid hov; clear hov
          obtain ⟨qv, qb⟩ := q
          cases qb with
          | false =>
            have HT : Hid (tailM c k 4 = []) := by unfold tailM; rw [HO.out]; rfl
            go_wp2
            go_ret
            rw [HM.out, HT.out]
            exact ⟨_, rfl, own_congr3 hown1 (by simp) (by simp [flatM]), hB1⟩
          | true =>
            have HT : Hid (tailM c k 4 = [⟨qv, (k : Int) + 1, 4⟩]) := by unfold tailM; rw [HO.out]; rfl
            go_wp2_with (at_builtin; refine wpList_append_own _ rfl _ _ 60 rfl w.heap.size 59 i59 (.agg #[.int .i64 0, .int .i64 0, .int .i64 0]) 3 24 Try.underlying60 hi59 hz59a hz59b hz59c rfl (by decide) _ 2 (flatM ([⟨100, k, 3⟩, ⟨101, k, 2⟩])) rfl (hown1.alloc _) ⟨w1.heap.size, 0, none⟩ 1 1 ([.int .i64 qv, .int .i64 ((k : Int) + 1), .int .i64 4]) rfl rfl (cells_new2 _ _ _ (by simp)) (by simp [Value.oneCell']) ?c3 ?c4 ?c5 ?_)
            case c3 => unfold maxLen; omega
            case c4 => omega
            case c5 => have := hB1.size; simp; omega
            intro v9 w9 hown9 hgrow9 _
            have hB9 := below_app3 hB1 hB1.size hown1 hgrow9
            clear hgrow9
            go_wp2
            go_ret
            rw [HM.out, HT.out]
            exact ⟨_, rfl, own_congr3 hown9 (by simp) (by simp [flatM, Mv.cells]), hB9⟩
        · have hdb : decide (256 ≤ c) = false := by simpa using hbig
          have hov : ownV c 4 = valF c 4 := by unfold ownV; rw [if_neg hbig]
          generalize valF c 4 = q at *
          have HO := Lib.hid hov; clear hov
          obtain ⟨qv, qb⟩ := q
          cases qb with
          | false =>
            have HT : Hid (tailM c k 4 = []) := by unfold tailM; rw [HO.out]; rfl
            go_wp2
            go_ret
            rw [HM.out, HT.out]
            exact ⟨_, rfl, own_congr3 hown1 (by simp) (by simp [flatM]), hB1⟩
          | true =>
            have HT : Hid (tailM c k 4 = [⟨qv, (k : Int) + 1, 4⟩]) := by unfold tailM; rw [HO.out]; rfl
            go_wp2_with (at_builtin; refine wpList_append_own _ rfl _ _ 60 rfl w.heap.size 59 i59 (.agg #[.int .i64 0, .int .i64 0, .int .i64 0]) 3 24 Try.underlying60 hi59 hz59a hz59b hz59c rfl (by decide) _ 2 (flatM ([⟨100, k, 3⟩, ⟨101, k, 2⟩])) rfl (hown1.alloc _) ⟨w1.heap.size, 0, none⟩ 1 1 ([.int .i64 qv, .int .i64 ((k : Int) + 1), .int .i64 4]) rfl rfl (cells_new2 _ _ _ (by simp)) (by simp [Value.oneCell']) ?c3 ?c4 ?c5 ?_)
            case c3 => unfold maxLen; omega
            case c4 => omega
            case c5 => have := hB1.size; simp; omega
            intro v9 w9 hown9 hgrow9 _
            have hB9 := below_app3 hB1 hB1.size hown1 hgrow9
            clear hgrow9
            go_wp2
            go_ret
            rw [HM.out, HT.out]
            exact ⟨_, rfl, own_congr3 hown9 (by simp) (by simp [flatM, Mv.cells]), hB9⟩
      | true =>
        have hm : movesL cs k 4 = [⟨100, k, 3⟩, ⟨101, k, 2⟩, ⟨10 * (c - 48) + c2 - 48, (k : Int) + 2, 4⟩] ++ tailM c k 4 := by rw [HML2.out, if_pos ⟨hk1, hdc, hdc2⟩]; simp
        have HM := Lib.hid hm; clear hm hdc hdc2
        go_wp2_with (at_builtin; refine wpList_append_own _ rfl _ _ 60 rfl w.heap.size 59 i59 (.agg #[.int .i64 0, .int .i64 0, .int .i64 0]) 3 24 Try.underlying60 hi59 hz59a hz59b hz59c rfl (by decide) _ 2 (flatM ([⟨100, k, 3⟩, ⟨101, k, 2⟩])) rfl (hown1.alloc _) ⟨w1.heap.size, 0, none⟩ 1 1 ([.int .i64 (10 * (c - 48) + c2 - 48), .int .i64 ((k : Int) + 2), .int .i64 4]) rfl rfl (cells_new2 _ _ _ (by simp)) (by simp [Value.oneCell']) (by unfold maxLen; omega) (by omega) (by have := hB1.size; simp; omega) ?_)
        intro v2 w2 hown2 hgrow2 _
        have hB2 := below_app3 hB1 hB1.size hown1 hgrow2
        have hbx2 : w2.heap[w.heap.size]? = some (.cells #[.int .i64 k, .int .i64 4] 57 (0, 0)) := by
          have hlt : w.heap.size < w1.heap.size := (Array.getElem?_eq_some_iff.1 HBX.out).1
          have hne : some w.heap.size ≠ v1.ownBlock := by
            rcases hown1.2 with ⟨rfl, hz⟩ | ⟨g, cp, cur, rfl, _, hg, _⟩
            · simp [Value.ownBlock]
            · intro e
              have e' : w.heap.size = g := by simpa [Value.ownBlock] using e
              rw [← e', HBX.out] at hg
              simp at hg
          rw [hgrow2.block w.heap.size (by simp; omega) hne, Below.heap_alloc _ _ _ hlt]
          exact HBX.out
        have hst2 : w2.cell? ⟨w.heap.size, 1, none⟩ = some (.int .i64 4) := by simp [World.cell?, hbx2]
        have hown2 : w2.ownsRow w.heap.size 59 3 v2 3 (flatM [⟨100, k, 3⟩, ⟨101, k, 2⟩, ⟨10 * (c - 48) + c2 - 48, (k : Int) + 2, 4⟩]) := hown2
        clear hgrow2 hbx2 hst hown1 hB1
        go_wp2_with fail
        refine (valueOf_any c 4 _ hc0 (by omega)).mono ?_
        rintro e w' ⟨rfl, rfl⟩
        by_cases hbig : 256 ≤ c
        · have hdb : decide (256 ≤ c) = true := by simpa using hbig
          have hov : ownV c 4 = funF c 4 := by unfold ownV; rw [if_pos hbig]
          generalize valF c 4 = q0 at *
          obtain ⟨q0v, q0b⟩ := q0
          go_wp2_with fail
          refine (functionValue_any c 4 _ hc0 (by omega)).mono ?_
          rintro e w' ⟨rfl, rfl⟩
          generalize funF c 4 = q at *
          have HO := Lib.hid hov; clear hov
          obtain ⟨qv, qb⟩ := q
          cases qb with
          | false =>
            have HT : Hid (tailM c k 4 = []) := by unfold tailM; rw [HO.out]; rfl
            go_wp2
            go_ret
            rw [HM.out, HT.out]
            exact ⟨_, rfl, own_congr3 hown2 (by simp) (by simp [flatM]), hB2⟩
          | true =>
            have HT : Hid (tailM c k 4 = [⟨qv, (k : Int) + 1, 4⟩]) := by unfold tailM; rw [HO.out]; rfl
            go_wp2_with (at_builtin; refine wpList_append_own _ rfl _ _ 60 rfl w.heap.size 59 i59 (.agg #[.int .i64 0, .int .i64 0, .int .i64 0]) 3 24 Try.underlying60 hi59 hz59a hz59b hz59c rfl (by decide) _ 3 (flatM ([⟨100, k, 3⟩, ⟨101, k, 2⟩, ⟨10 * (c - 48) + c2 - 48, (k : Int) + 2, 4⟩])) rfl (hown2.alloc _) ⟨w2.heap.size, 0, none⟩ 1 1 ([.int .i64 qv, .int .i64 ((k : Int) + 1), .int .i64 4]) rfl rfl (cells_new2 _ _ _ (by simp)) (by simp [Value.oneCell']) ?c3 ?c4 ?c5 ?_)
            case c3 => unfold maxLen; omega
            case c4 => omega
            case c5 => have := hB2.size; simp; omega
            intro v9 w9 hown9 hgrow9 _
            have hB9 := below_app3 hB2 hB2.size hown2 hgrow9
            clear hgrow9
            go_wp2
            go_ret
            rw [HM.out, HT.out]
            exact ⟨_, rfl, own_congr3 hown9 (by simp) (by simp [flatM, Mv.cells]), hB9⟩
        · have hdb : decide (256 ≤ c) = false := by simpa using hbig
          have hov : ownV c 4 = valF c 4 := by unfold ownV; rw [if_neg hbig]
          generalize valF c 4 = q at *
          have HO := Lib.hid hov; clear hov
          obtain ⟨qv, qb⟩ := q
          cases qb with
          | false =>
            have HT : Hid (tailM c k 4 = []) := by unfold tailM; rw [HO.out]; rfl
            go_wp2
            go_ret
            rw [HM.out, HT.out]
            exact ⟨_, rfl, own_congr3 hown2 (by simp) (by simp [flatM]), hB2⟩
          | true =>
            have HT : Hid (tailM c k 4 = [⟨qv, (k : Int) + 1, 4⟩]) := by unfold tailM; rw [HO.out]; rfl
            go_wp2_with (at_builtin; refine wpList_append_own _ rfl _ _ 60 rfl w.heap.size 59 i59 (.agg #[.int .i64 0, .int .i64 0, .int .i64 0]) 3 24 Try.underlying60 hi59 hz59a hz59b hz59c rfl (by decide) _ 3 (flatM ([⟨100, k, 3⟩, ⟨101, k, 2⟩, ⟨10 * (c - 48) + c2 - 48, (k : Int) + 2, 4⟩])) rfl (hown2.alloc _) ⟨w2.heap.size, 0, none⟩ 1 1 ([.int .i64 qv, .int .i64 ((k : Int) + 1), .int .i64 4]) rfl rfl (cells_new2 _ _ _ (by simp)) (by simp [Value.oneCell']) ?c3 ?c4 ?c5 ?_)
            case c3 => unfold maxLen; omega
            case c4 => omega
            case c5 => have := hB2.size; simp; omega
            intro v9 w9 hown9 hgrow9 _
            have hB9 := below_app3 hB2 hB2.size hown2 hgrow9
            clear hgrow9
            go_wp2
            go_ret
            rw [HM.out, HT.out]
            exact ⟨_, rfl, own_congr3 hown9 (by simp) (by simp [flatM, Mv.cells]), hB9⟩
  · have hm : movesL cs k 4 = [⟨100, k, 3⟩, ⟨101, k, 2⟩] ++ tailM c k 4 := by rw [HML.out, if_neg (by omega)]; simp
    have HM := Lib.hid hm; clear hm
    have hg1 : decide ((k : Int) + 1 < (n : Int)) = false := by simp; omega
    go_enter Try.func38, Try.ntmps38
    go_wp2_with (at_builtin; refine wpList_append_own _ rfl _ _ 60 rfl w.heap.size 59 i59 (.agg #[.int .i64 0, .int .i64 0, .int .i64 0]) 3 24 Try.underlying60 hi59 hz59a hz59b hz59c rfl (by decide) _ 0 ([]) rfl ((World.ownsRow_nil (w.alloc (.cells #[.int .i64 k, .int .i64 4] 57)) w.heap.size 59 3).alloc _) ⟨w.heap.size + 1, 0, none⟩ 2 2 ([.int .i64 100, .int .i64 (k : Int), .int .i64 3, .int .i64 101, .int .i64 (k : Int), .int .i64 2]) rfl rfl (cells_new2 _ _ _ (by simp)) (by simp [Value.oneCell']) (by unfold maxLen; omega) (by omega) (by simp; omega) ?_)
    intro v1 w1 hown1 hgrow1 _
    have hB1 := below_app3 hB0 hB0.size (World.ownsRow_nil _ w.heap.size 59 3) hgrow1
    have hbx : w1.heap[w.heap.size]? = some (.cells #[.int .i64 k, .int .i64 4] 57 (0, 0)) := by
      rw [hgrow1.block w.heap.size (by simp; omega) (by simp [Value.ownBlock]), Below.heap_alloc _ _ _ (by simp)]
      exact World.alloc_heap_new w _
    have hst : w1.cell? ⟨w.heap.size, 1, none⟩ = some (.int .i64 4) := by simp [World.cell?, hbx]
    have hown1 : w1.ownsRow w.heap.size 59 3 v1 2 (flatM [⟨100, k, 3⟩, ⟨101, k, 2⟩]) := hown1
    clear hgrow1 hbx
    go_wp2_with fail
    refine (valueOf_any c 4 _ hc0 (by omega)).mono ?_
    rintro e w' ⟨rfl, rfl⟩
    by_cases hbig : 256 ≤ c
    · have hdb : decide (256 ≤ c) = true := by simpa using hbig
      have hov : ownV c 4 = funF c 4 := by unfold ownV; rw [if_pos hbig]
      generalize valF c 4 = q0 at *
      obtain ⟨q0v, q0b⟩ := q0
      go_wp2_with fail
      refine (functionValue_any c 4 _ hc0 (by omega)).mono ?_
      rintro e w' ⟨rfl, rfl⟩
      generalize funF c 4 = q at *
      have HO := Lib.hid hov; clear hov
      obtain ⟨qv, qb⟩ := q
      cases qb with
      | false =>
        have HT : Hid (tailM c k 4 = []) := by unfold tailM; rw [HO.out]; rfl
        go_wp2
        go_ret
        rw [HM.out, HT.out]
        exact ⟨_, rfl, own_congr3 hown1 (by simp) (by simp [flatM]), hB1⟩
      | true =>
        have HT : Hid (tailM c k 4 = [⟨qv, (k : Int) + 1, 4⟩]) := by unfold tailM; rw [HO.out]; rfl
        go_wp2_with (at_builtin; refine wpList_append_own _ rfl _ _ 60 rfl w.heap.size 59 i59 (.agg #[.int .i64 0, .int .i64 0, .int .i64 0]) 3 24 Try.underlying60 hi59 hz59a hz59b hz59c rfl (by decide) _ 2 (flatM ([⟨100, k, 3⟩, ⟨101, k, 2⟩])) rfl (hown1.alloc _) ⟨w1.heap.size, 0, none⟩ 1 1 ([.int .i64 qv, .int .i64 ((k : Int) + 1), .int .i64 4]) rfl rfl (cells_new2 _ _ _ (by simp)) (by simp [Value.oneCell']) ?c3 ?c4 ?c5 ?_)
        case c3 => unfold maxLen; omega
        case c4 => omega
        case c5 => have := hB1.size; simp; omega
        intro v9 w9 hown9 hgrow9 _
        have hB9 := below_app3 hB1 hB1.size hown1 hgrow9
        clear hgrow9
        go_wp2
        go_ret
        rw [HM.out, HT.out]
        exact ⟨_, rfl, own_congr3 hown9 (by simp) (by simp [flatM, Mv.cells]), hB9⟩
    · have hdb : decide (256 ≤ c) = false := by simpa using hbig
      have hov : ownV c 4 = valF c 4 := by unfold ownV; rw [if_neg hbig]
      generalize valF c 4 = q at *
      have HO := Lib.hid hov; clear hov
      obtain ⟨qv, qb⟩ := q
      cases qb with
      | false =>
        have HT : Hid (tailM c k 4 = []) := by unfold tailM; rw [HO.out]; rfl
        go_wp2
        go_ret
        rw [HM.out, HT.out]
        exact ⟨_, rfl, own_congr3 hown1 (by simp) (by simp [flatM]), hB1⟩
      | true =>
        have HT : Hid (tailM c k 4 = [⟨qv, (k : Int) + 1, 4⟩]) := by unfold tailM; rw [HO.out]; rfl
        go_wp2_with (at_builtin; refine wpList_append_own _ rfl _ _ 60 rfl w.heap.size 59 i59 (.agg #[.int .i64 0, .int .i64 0, .int .i64 0]) 3 24 Try.underlying60 hi59 hz59a hz59b hz59c rfl (by decide) _ 2 (flatM ([⟨100, k, 3⟩, ⟨101, k, 2⟩])) rfl (hown1.alloc _) ⟨w1.heap.size, 0, none⟩ 1 1 ([.int .i64 qv, .int .i64 ((k : Int) + 1), .int .i64 4]) rfl rfl (cells_new2 _ _ _ (by simp)) (by simp [Value.oneCell']) ?c3 ?c4 ?c5 ?_)
        case c3 => unfold maxLen; omega
        case c4 => omega
        case c5 => have := hB1.size; simp; omega
        intro v9 w9 hown9 hgrow9 _
        have hB9 := below_app3 hB1 hB1.size hown1 hgrow9
        clear hgrow9
        go_wp2
        go_ret
        rw [HM.out, HT.out]
        exact ⟨_, rfl, own_congr3 hown9 (by simp) (by simp [flatM, Mv.cells]), hB9⟩

theorem moves_any (a : Option Addr) (n cap k : Nat) (st : Int) (cs : List Int) (w : World) (h : RdI w a n cs) (hk : k < n) (hn : n ≤ 1099511627776) (hc : ∀ c ∈ cs, 0 ≤ c ∧ c ≤ 500) (h0 : 0 ≤ st) (h4 : st ≤ 4) :
    Calls Try.prog 38 #[.slice a n cap, .agg #[.int .i64 k, .int .i64 st]] w (RetM (movesL cs k st) w) := by
  have : st = 0 ∨ st = 1 ∨ st = 2 ∨ st = 3 ∨ st = 4 := by omega
  rcases this with rfl | rfl | rfl | rfl | rfl
  · exact moves_0 a n cap k cs w h hk hn hc
  · exact moves_1 a n cap k cs w h hk hn hc
  · exact moves_2 a n cap k cs w h hk hn hc
  · exact moves_3 a n cap k cs w h hk hn hc
  · exact moves_4 a n cap k cs w h hk hn hc

end Go.Proofs.Ytofedeokliljkaa
