/-
  The walk of split.Join. Condition: the messages are few and short.
-/
import Derived.Test.YtifgpjhodajccaaWalkQ
import Derived.Test.YtifgpjhodajccaaPlainN
namespace Go.Proofs.Ytifgpjhodajccaa
open Go.RowKit

/-- The pair of new bytes and a number. -/
def RetU (xs : List Int) (c : Int) (w : World) (e : Ending) (w' : World) : Prop :=
  ∃ v, e = .returned (.tuple #[v, .int .i64 c]) ∧ w'.ownsRow w.heap.size 5 1 v xs.length (xs.map (Value.int .u8)) ∧ Below w.heap.size w w'

theorem retU_nil (c : Int) (w w' : World) (h : Below w.heap.size w w') : RetU [] c w (.returned (.tuple #[.slice none 0 0, .int .i64 c])) w' := ⟨_, rfl, World.ownsRow_nil _ _ _ _, h⟩

def keysAt (L : Tab) (seen : List Nat) : List Int := seen.map (fun j => (L.getD j (0, [])).1)
def valsAt (L : Tab) (seen : List Nat) : List (List Int) := seen.map (fun j => (L.getD j (0, [])).2)
def bytesAt (L : Tab) (seen : List Nat) : Nat := (valsAt L seen).flatten.length

theorem range_getD {α : Type} (L : List α) (d : α) : (List.range L.length).map (fun j => L.getD j d) = L := by
  apply List.ext_getElem?
  intro i
  rw [List.getElem?_map]
  rcases Nat.lt_or_ge i L.length with h | h
  · rw [List.getElem?_range h]; simp [h]
  · rw [List.getElem?_eq_none (by simpa using h), List.getElem?_eq_none h]; rfl

theorem keysAt_full {L : Tab} {seen : List Nat} (h : seen.Perm (List.range L.length)) : (keysAt L seen).Perm (L.map (·.1)) := by
  have h1 := h.map (fun j => (L.getD j (0, [])).1)
  have h2 : (List.range L.length).map (fun j => (L.getD j (0, [])).1) = L.map (·.1) := by
    conv => rhs; rw [← range_getD L (0, [])]
    rw [List.map_map]; rfl
  rw [h2] at h1
  exact h1

theorem bytesAt_full {L : Tab} {seen : List Nat} (h : seen.Perm (List.range L.length)) : bytesAt L seen = sizeL L := by
  unfold bytesAt sizeL
  have h1 := h.map (fun j => (L.getD j (0, [])).2)
  have h2 : (List.range L.length).map (fun j => (L.getD j (0, [])).2) = L.map (·.2) := by
    conv => rhs; rw [← range_getD L (0, [])]
    rw [List.map_map]; rfl
  rw [h2] at h1
  rw [List.length_flatten, List.length_flatten]
  exact (h1.map List.length).sum_nat

theorem keysAt_snoc {L : Tab} {seen : List Nat} {j : Nat} {x : Int × List Int} (h : L[j]? = some x) : keysAt L (seen ++ [j]) = keysAt L seen ++ [x.1] := by
  unfold keysAt; simp [h]
theorem bytesAt_snoc {L : Tab} {seen : List Nat} {j : Nat} {x : Int × List Int} (h : L[j]? = some x) : bytesAt L (seen ++ [j]) = bytesAt L seen + x.2.length := by
  unfold bytesAt valsAt; simp [h]
theorem keysAt_length (L : Tab) (seen : List Nat) : (keysAt L seen).length = seen.length := by simp [keysAt]

theorem tab_short {ms : List Msg} (hsh : ShortM ms) (h0 : (collF ms).1 = 0) : ∀ x ∈ (collF ms).2.1, x.2.length ≤ 2000 ∧ ∀ c ∈ x.2, 0 ≤ c ∧ c < 256 := by
  cases ms with
  | nil => simp [collF] at h0
  | cons m r =>
    rcases valid_all_or (m :: r) with hv | ⟨m', hm', hv⟩
    · rcases collF_spec m r hv with ⟨L, c1, t1, _⟩ | ⟨c1, _⟩
      · rw [c1]
        intro x hx
        obtain ⟨j, hj⟩ := List.mem_iff_getElem?.1 hx
        obtain ⟨m', h1, _, h3⟩ := (t1.look _ _).1 (lookL_of t1.nd hj)
        rw [← h3]
        exact (hsh m' h1).2
      · rw [c1] at h0; cases h0
    · rw [collF_bad hm' hv] at h0; cases h0

theorem tab_len {w : World} {b : Nat} {L : Tab} (h : MapB w b L) : L.length ≤ 16 := by
  have := List.Nodup.length_le_of_subset h.nd (l₂ := (List.range 16).map Int.ofNat) (fun a ha => by
    obtain ⟨x, hx, rfl⟩ := List.mem_map.1 ha
    have := h.kb x hx
    exact List.mem_map.2 ⟨x.1.toNat, by simp; omega, by simp; omega⟩)
  simpa using this

theorem own_grown {w w' : World} {B e s n r : Nat} {v : Value} {xs : List Value} (h : w.ownsRow B e s v n xs) (hr : r < B) (hg : w.grownBy w' (some r)) : w'.ownsRow B e s v n xs := by
  obtain ⟨h1, h2⟩ := h
  refine ⟨h1, ?_⟩
  rcases h2 with h2 | ⟨g, cap, cur, e1, e2, hb, e3⟩
  · exact .inl h2
  · refine .inr ⟨g, cap, cur, e1, e2, (hg.block g (Array.getElem?_eq_some_iff.1 hb).1 (fun h => ?_)).trans hb, e3⟩
    have h : g = r := by simpa using h
    omega

theorem own_ne {w : World} {B e s n r : Nat} {v : Value} {xs : List Value} (h : w.ownsRow B e s v n xs) (hr : r < B) : some r ≠ v.ownBlock := by
  rcases h.2 with ⟨rfl, _⟩ | ⟨g, cap, cur, rfl, e2, _⟩
  · simp [Value.ownBlock]
  · intro e
    have e' : r = g := by simpa [Value.ownBlock] using e
    omega

theorem take_map_snoc {f : Int → List Int} {zs : List Int} {k : Nat} {z : Int} (h : zs[k]? = some z) : ((zs.take (k + 1)).map f).flatten = ((zs.take k).map f).flatten ++ f z := by
  rw [List.take_add_one, h]; simp

theorem flat_take_le (f : Int → List Int) (zs : List Int) (k : Nat) : (((zs.take k).map f).flatten).length ≤ ((zs.map f).flatten).length := by
  have : (zs.map f).flatten = ((zs.take k).map f).flatten ++ ((zs.drop k).map f).flatten := by
    rw [← List.flatten_append, ← List.map_append, List.take_append_drop]
  rw [this]; simp

set_option maxRecDepth 100000 in
set_option maxHeartbeats 8000000 in
theorem join_any (a : Option Addr) (n cap : Nat) (ms : List Msg) (w : World) (h : RdM w a n ms) (hn : n ≤ 1000) (hsh : ShortM ms) :
    Calls Try.prog 15 #[.slice a n cap] w (RetU (joinF ms).2 (joinF ms).1 w) := by
  have HC := Lib.hid (collect_any a n cap ms w h hn hsh)
  have HD := Lib.hid (collF_hd ms)
  have HT := Lib.hid (tab_short hsh)
  have HJF : Hid (joinF ms = if (collF ms).1 ≠ 0 then ((collF ms).1, []) else joinE (collF ms).2.1 (collF ms).2.2) := Lib.hid rfl
  clear h hsh
  obtain ⟨i3, hi3, hz3a, hz3b, hz3c⟩ := info_parts info3
  obtain ⟨i5, hi5, hz5a, hz5b, hz5c⟩ := info_parts info5
  go_enter Try.func15, Try.ntmps15
  go_wp2_with fail
  refine HC.out.mono ?_
  rintro e w1 ⟨hb1, mv, i, t, p, err, rfl, he, hh, hm⟩
  have hs1 := hb1.size
  by_cases herr : err = 0
  · subst herr
    obtain ⟨b, rfl, hM⟩ := hm rfl
    have hd := HD.out he.symm
    have hT := HT.out he.symm
    rw [← hh] at hd
    simp only at hd
    have hjf : joinF ms = joinE (collF ms).2.1 (i, t, p) := by
      rw [HJF.out, if_neg (by rw [← he]; simp), ← hh]
    generalize (collF ms).2.1 = L at *
    have HJ := Lib.hid hjf
    have HTS := Lib.hid hT
    clear HC HD HJF HT hT hjf hh he hm
    have hb2 : Below w1.heap.size w1 (w1.alloc (.cells #[.int .i64 i, .int .i64 t, .int .i64 p] 40)) := (Below.refl _ _).alloc (Nat.le_refl _) _
    have hM2 := hM.below hb2
    have hlen := hM2.len 3
    have hL16 := tab_len hM
    have hBw : Below w.heap.size w (w1.alloc (.cells #[.int .i64 i, .int .i64 t, .int .i64 p] 40)) := below_tr hb1 hs1 hb2
    have hblk : (w1.alloc (.cells #[.int .i64 i, .int .i64 t, .int .i64 p] 40)).heap[w1.heap.size]? = some (.cells #[.int .i64 i, .int .i64 t, .int .i64 p] 40 (0, 0)) := World.alloc_heap_new w1 _
    clear hM hb2
    by_cases hmiss : (L.length : Int) < t
    · have hd1 : decide ((L.length : Int) < t) = true := by simpa using hmiss
      have hres : joinE L (i, t, p) = (33, []) := by unfold joinE; rw [if_pos hmiss]
      rw [hres] at HJ
      clear hres
      go_wp2_with fail
      go_ret2
      rw [HJ.out]
      exact retU_nil _ _ _ hBw
    · have hd1 : decide ((L.length : Int) < t) = false := by simpa using hmiss
      have hs2 : (w1.alloc (.cells #[.int .i64 i, .int .i64 t, .int .i64 p] 40)).heap.size = w1.heap.size + 1 := by simp
      obtain ⟨w3, hrg, hI3, hb3, hs3⟩ := hM2.range
      go_wp2_with fail
      generalize hw2 : w1.alloc (.cells #[.int .i64 i, .int .i64 t, .int .i64 p] 40) = w2 at *
      clear hrg hlen hw2
      have hBs2 := hBw.size
      rw [hs2] at hI3
      have hM2' := Lib.hid hM2
      have HTS' := HTS.out
      go_loopg [7, 8] L.length (fun r v x wr => ∃ seen : List Nat, seen.length + r = L.length ∧ x = .int .i64 (bytesAt L seen : Nat) ∧ IterB wr b (w1.heap.size + 1) L seen ∧ wr.ownsRow (w1.heap.size + 2) 3 1 v (keysAt L seen).length ((keysAt L seen).map (Value.int .i64)) ∧ Below w2.heap.size w2 wr ∧ w2.heap.size < wr.heap.size ∧ bytesAt L seen ≤ 2000 * seen.length)
      case atStart => exact ⟨[], by simp, rfl, hI3, World.ownsRow_nil _ _ _ _, hb3, by omega, by simp [bytesAt, valsAt]⟩
      case round =>
        clear hI3 hb3 hs3
        obtain ⟨seen, hr, rfl, hI, hown, hB, hlt, hby⟩ := hrel
        have hkl := keysAt_length L seen
        rcases (hM2'.out.below hB).next hI with ⟨hfull, hnx⟩ | ⟨j, x, v, w4, hj, hsl, hnx, hI4, hen, hg4, hs4, hlt4⟩
        · have hS := bytesAt_full hfull
          have HKP := Lib.hid (keysAt_full hfull)
          have hjE : joinE L (i, t, p) = if 4096 < bytesAt L seen then (4, []) else if t ≠ 0 ∧ p ≠ (parF (payL L) 0 : Nat) then (8, []) else (0, payL L) := by
            unfold joinE; rw [if_neg (by show ¬ (L.length : Int) < t; omega), hS]
          rw [hjE] at HJ
          clear hjE hfull
          have HS := Lib.hid hS
          clear hS
          generalize bytesAt L seen = bl at *
          by_cases hlong : 4096 < bl
          · have hd2 : decide (4096 < (bl : Int)) = true := by simp; omega
            rw [if_pos hlong] at HJ
            go_wp2_with fail
            go_ret2
            rw [HJ.out]
            exact retU_nil _ _ _ (below_tr hBw hBs2 hB)
          · have hd2 : decide (4096 < (bl : Int)) = false := by simp; omega
            rw [if_neg hlong] at HJ
            have HSO := Lib.hid (sortInts_any (w1.heap.size + 2) _ (keysAt L seen) wr hown (by omega))
            go_wp2_with fail
            refine HSO.out.mono ?_
            rintro e w5 ⟨rfl, hown5, hg5⟩
            have hB5 : Below w2.heap.size w2 w5 := below_grow1 hB hown (by omega) hB.size hg5
            have hpay := pay_sorted L hM2'.out.nd hM2'.out.kb HKP.out
            have hzk : ∀ z ∈ (keysAt L seen).mergeSort (fun x y => decide (x ≤ y)), z ∈ L.map (·.1) := fun z hz => HKP.out.mem_iff.1 ((List.mergeSort_perm _ _).mem_iff.1 hz)
            have hzl : ((keysAt L seen).mergeSort (fun x y => decide (x ≤ y))).length = (keysAt L seen).length := List.length_mergeSort _
            have hsz := sizeL_pay hM2'.out.nd hM2'.out.kb
            rw [← hzl] at hown5
            generalize (keysAt L seen).mergeSort (fun x y => decide (x ≤ y)) = zs at *
            obtain ⟨ia, ic, rfl, hrz⟩ := own_rd hown5
            have HRZ := Lib.hid hrz
            have HZK := Lib.hid hzk
            have HPAY := Lib.hid hpay
            have hzn : zs.length ≤ 16 := by omega
            have hM5 := Lib.hid (hM2'.out.below hB5)
            have hB5s := hB5.size
            have hbl : (payL L).length ≤ 4096 := by have := HS.out; omega
            clear hown5 hg5 hrz hzk hpay hzl hown hI hnx HSO hB hM2' hsz HS
            go_wp2_with (at_make; refine wpList_make_own _ rfl _ _ 22 rfl w5.heap.size 5 i5 (.int .u8 0) 1 Try.underlying22 hi5 hz5a hz5b _ _ _ bl rfl rfl rfl (by rw [hz5c]; omega) (by unfold maxLen; omega) (Nat.le_refl _) ?_)
            intro w6 hown6 hgrow6
            have hB6 : Below w5.heap.size w5 w6 := (Below.refl _ w5).grown hgrow6 (Nat.le_refl _) (fun k e => by cases e)
            clear hgrow6
            have HP0 : Hid (((zs.take zs.length).map (fun k => (lookL L k).getD [])).flatten = payL L) := Lib.hid (by rw [List.take_of_length_le (Nat.le_refl _)]; exact HPAY.out)
            have HLE : Hid (∀ k, (((zs.take k).map (fun k => (lookL L k).getD [])).flatten).length ≤ 4096) := Lib.hid fun k => Nat.le_trans (flat_take_le _ _ _) (by rw [HPAY.out]; exact hbl)
            have HPB : Hid (∀ c ∈ payL L, 0 ≤ c ∧ c < 256) := Lib.hid (by
              rw [← HPAY.out]
              intro c hc
              obtain ⟨l, hl, hcl⟩ := List.mem_flatten.1 hc
              obtain ⟨k, hk, rfl⟩ := List.mem_map.1 hl
              cases hlk : lookL L k with
              | none => simp [hlk] at hcl
              | some y => simp [hlk] at hcl; exact (HTS.out _ (lookL_mem hlk)).2 c hcl)
            clear HPAY
            go_wp2_with fail
            go_loopg [11, 51] zs.length (fun r v x wr => ∃ k : Nat, k + r = zs.length ∧ x = .int .i64 k ∧ wr.ownsRow w5.heap.size 5 1 v (((zs.take k).map (fun k => (lookL L k).getD [])).flatten).length ((((zs.take k).map (fun k => (lookL L k).getD [])).flatten).map (Value.int .u8)) ∧ Below w5.heap.size w5 wr)
            case atStart => exact ⟨0, by omega, rfl, by simpa using hown6, hB6⟩
            case round =>
              clear hown6 hB6
              obtain ⟨k, hk, rfl, hown, hB⟩ := hrel
              have hBs := hB.size
              by_cases hlt : k < zs.length
              · obtain ⟨zb, zo, z, rfl, hcell, hdz⟩ := (HRZ.out.below hB).at k hlt
                have hzk := getElem?_of_drop hdz
                have hmem := HZK.out z (List.mem_of_getElem? hzk)
                obtain ⟨y, hy, hyz⟩ := List.mem_map.1 hmem
                have hkb := hM2.kb y hy
                rw [hyz] at hkb
                obtain ⟨sv, hlk, _, hl2⟩ := (hM5.out.below hB).look z (by omega) (by omega) false
                rw [if_neg (by decide)] at hlk
                obtain ⟨sd, hsd⟩ := Option.isSome_iff_exists.1 ((look_keys z).1 hmem)
                obtain ⟨da, dc, rfl, hr, hdc, hdc2, hnil⟩ := (hl2 sd hsd).ex
                have hjt := take_map_snoc (f := fun k => (lookL L k).getD []) hzk
                have hfz : (lookL L z).getD [] = sd := by rw [hsd]; rfl
                simp only [hfz] at hjt
                have hjl := HLE.out (k + 1)
                rw [hjt, List.length_append] at hjl
                have HJT := Lib.hid hjt
                have HR := Lib.hid hr
                have q0 : (0 : Int) ≤ (k : Int) := by omega
                have q1 : (k : Int) < (zs.length : Int) := by omega
                clear hjt hr hdz hzk hmem hl2 hfz
                obtain ⟨Pk, hPk⟩ : ∃ Pk, ((zs.take k).map (fun k => (lookL L k).getD [])).flatten = Pk := ⟨_, rfl⟩
                rw [hPk] at hown hjl HJT
                cases da with
                | none =>
                  have hd0 := hnil rfl
                  subst hd0
                  have hl0 : sd.length = 0 := by omega
                  have hsd0 : sd = [] := List.eq_nil_of_length_eq_zero hl0
                  subst hsd0
                  have hrn := run_append_owned_none (P := Try.prog) wr w5.heap.size 22 22 5 i5 1 Try.underlying22 hi5 _ _ _ hown
                  have HRN := Lib.hid hrn
                  clear hrn
                  go_wp2_with (at_builtin; refine Lib.wpList_append_run _ rfl _ _ _ _ rfl _ _ rfl rfl _ _ HRN.out ?_)
                  go_roundg (zs.length - (k + 1))
                  case rel => exact ⟨k + 1, by omega, by go_num, by rw [HJT.out, List.append_nil]; exact hown, hB⟩
                  case measure => omega
                | some da =>
                  obtain ⟨db, dof, dk⟩ := da
                  have hdk : 0 < sd.length → dk = none := fun h0 => by
                    obtain ⟨b', o', e, _⟩ := HR.out.cell 0 h0
                    cases e; rfl
                  have hcells : ∀ j u, (sd.map (Value.int .u8))[j]? = some u → wr.cell? ((⟨db, dof, dk⟩ : Addr).add j) = some u := fun j u hj => by
                    have hjl : j < sd.length := by
                      have := (List.getElem?_eq_some_iff.1 hj).1
                      simpa using this
                    obtain rfl := hdk (by omega)
                    exact rd_cells HR.out j u hj
                  have HCE := Lib.hid hcells
                  clear hcells
                  go_wp2_with (at_builtin; refine wpList_append_own _ rfl _ _ 22 rfl w5.heap.size 5 i5 (.int .u8 0) 1 1 Try.underlying22 hi5 hz5a hz5b hz5c rfl (by decide) _ _ _ rfl hown ⟨db, dof, dk⟩ sd.length dc (sd.map (Value.int .u8)) rfl (by simp) HCE.out ?c2 ?c3 ?c4 ?c5 ?_)
                  case c2 => intro u hu; obtain ⟨x, _, rfl⟩ := List.mem_map.1 hu; rfl
                  case c3 => unfold maxLen; omega
                  case c4 => omega
                  case c5 => omega
                  intro v7 w7 hown7 hgrow7 _
                  have hB7 := below_grow1 hB hown (Nat.le_refl _) hBs hgrow7
                  clear hgrow7 hown
                  go_wp2_with fail
                  go_roundg (zs.length - (k + 1))
                  case rel => exact ⟨k + 1, by omega, by go_num, by rw [HJT.out]; exact own_congr hown7 (by simp) (by simp), hB7⟩
                  case measure => omega
              · obtain rfl : k = zs.length := by omega
                rw [HP0.out] at hown
                have hblk9 : wr.heap[w1.heap.size]? = some (.cells #[.int .i64 i, .int .i64 t, .int .i64 p] 40 (0, 0)) := (hB.block _ (by omega)).trans ((hB5.block _ (by omega)).trans hblk)
                have hc1 : wr.cell? ⟨w1.heap.size, 1, none⟩ = some (.int .i64 t) := cell_of_blk (j := 1) hblk9 _ rfl
                have hc2 : wr.cell? ⟨w1.heap.size, 2, none⟩ = some (.int .i64 p) := cell_of_blk (j := 2) hblk9 _ rfl
                have hBend : Below w.heap.size w wr := below_tr hBw hBs2 (hB5.trans (hB.mono hB5s))
                obtain ⟨pa, pc, rfl, hrp⟩ := own_rd hown
                have hple : (payL L).length ≤ 1000000 := by have := HLE.out zs.length; rw [HP0.out] at this; omega
                have HPA := Lib.hid (fun W (hW : Below wr.heap.size wr W) => parity_any pa _ pc (payL L) W (hrp.below hW) HPB.out hple)
                have hownE := own_base hown (show w.heap.size ≤ w5.heap.size by omega)
                have HOE := Lib.hid hownE
                have HBE := Lib.hid hBend
                have HJ2 := HJ.out
                clear hblk9 hblk hownE hown hrp hBend HJ hple
                obtain ⟨pn, hpn⟩ : ∃ pn, parF (payL L) 0 = pn := ⟨_, rfl⟩
                rw [hpn] at HJ2
                simp only [hpn] at HPA
                clear hpn
                by_cases ht : t = 0
                · subst ht
                  rw [if_neg (by omega)] at HJ2
                  have HJ := Lib.hid HJ2
                  clear HJ2
                  go_wp2_with fail
                  go_quiet (fail)
                  go_wp2_with fail
                  go_ret2
                  rw [HJ.out]
                  exact ⟨_, rfl, own_drewN HOE.out _, below_drewN HBE.out _⟩
                · have ht' : (t == 0) = false := by simp [ht]
                  have ht2 : (t != 0) = true := by simp [ht]
                  by_cases hp : p = (pn : Int)
                  · rw [if_neg (by omega)] at HJ2
                    have hp' : (p == (pn : Int)) = true := by simpa using hp
                    have hp2 : (p != (pn : Int)) = false := by simpa using hp
                    have HJ := Lib.hid HJ2
                    clear HJ2 hp ht
                    go_wp2_with fail
                    go_quiet ((go_at_call 8; exact Calls.quiet_of_same ((HPA.out _ (below_drewN (Below.refl _ _) _)).mono fun _ _ h => ⟨h.1, h.2.symm⟩)))
                    go_wp2_with fail
                    go_ret2
                    rw [HJ.out]
                    exact ⟨_, rfl, own_drewN HOE.out _, below_drewN HBE.out _⟩
                  · rw [if_pos ⟨ht, hp⟩] at HJ2
                    have hp' : (p == (pn : Int)) = false := by simpa using hp
                    have hp2 : (p != (pn : Int)) = true := by simpa using hp
                    have HJ := Lib.hid HJ2
                    clear HJ2 hp ht
                    go_wp2_with fail
                    go_quiet ((go_at_call 8; exact Calls.quiet_of_same ((HPA.out _ (below_drewN (Below.refl _ _) _)).mono fun _ _ h => ⟨h.1, h.2.symm⟩)))
                    go_wp2_with fail
                    go_ret2
                    rw [HJ.out]
                    exact retU_nil _ _ _ (below_drewN HBE.out _)
        · obtain ⟨va, vc, rfl, hrv, _⟩ := hsl.ex
          have hown4 := own_grown hown (Nat.lt_succ_self _) hg4
          have hB4 : Below w2.heap.size w2 w4 := below_grown2 hB (by omega) hB.size hg4
          have hB4s := hB4.size
          have hx2 := (HTS' x (List.mem_of_getElem? hj)).1
          have hkb := hM2.kb x (List.mem_of_getElem? hj)
          have HKS := Lib.hid (keysAt_snoc (seen := seen) hj)
          have HBS := Lib.hid (bytesAt_snoc (seen := seen) hj)
          have hlt5 : w2.heap.size < w4.heap.size := by omega
          clear hown hsl hrv hj hB hs4
          go_wp2_with (at_builtin; refine wpList_append_own _ rfl _ _ 26 rfl (w1.heap.size + 2) 3 i3 (.int .i64 0) 1 8 Try.underlying26 hi3 hz3a hz3b hz3c rfl (by decide) _ _ _ rfl (hown4.alloc _) ⟨w4.heap.size, 0, none⟩ 1 1 [.int .i64 x.1] rfl rfl (cell_one_new _ _ _) (by simp [Value.oneCell']) ?c3 ?c4 ?c5 ?_)
          case c3 => unfold maxLen; omega
          case c4 => omega
          case c5 => simp; omega
          intro v7 w7 hown7 hgrow7 _
          have hne := own_ne hown4 (show w1.heap.size + 1 < w1.heap.size + 2 by omega)
          have hB7 : Below w2.heap.size w2 w7 := below_app3 hB4 hB4s (own_base hown4 (by omega)) hgrow7
          have hI7 : IterB w7 b (w1.heap.size + 1) L (seen ++ [j]) := ⟨(hgrow7.block _ (by simp; omega) hne).trans ((Below.heap_alloc _ _ _ (by omega)).trans hI4.it), hI4.nd, hI4.lt⟩
          have hlt7 : w2.heap.size < w7.heap.size := by have := hgrow7.size; simp at this; omega
          clear hgrow7 hown4 hI4
          go_wp2_with fail
          go_roundg (L.length - (seen.length + 1))
          case rel =>
            refine ⟨seen ++ [j], by simp; omega, ?_, hI7, by rw [HKS.out]; exact own_congr hown7 (by simp [keysAt_length]) (by simp), hB7, hlt7, by rw [HBS.out]; simp; omega⟩
            rw [HBS.out]; go_num
          case measure => omega
  · have hjf : joinF ms = (err, []) := by
      rw [HJF.out, if_pos (by rw [← he]; exact herr), ← he]
    have HJ := Lib.hid hjf
    have herr' : (err == 0) = false := by simp [herr]
    clear HC HD HJF HT hjf hh he hm
    go_wp2_with fail
    go_ret2
    rw [HJ.out]
    exact retU_nil _ _ _ (hb1.alloc hs1 _)

end Go.Proofs.Ytifgpjhodajccaa
