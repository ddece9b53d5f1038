/-
  The walk of runs.Quantize. Condition: fewer than 2^40 widths.
-/
import Derived.Test.YtcihombiijjndaaWalkI
namespace Go.Proofs.Ytcihombiijjndaa
open Go.RowKit

theorem info48 : (Try.prog.info? 48).map (fun i => (i.zero, i.size, i.bytes)) = some (some (.agg #[.int .i64 0, .int .i64 0, .int .i64 0]), 3, 24) := by kernel_rfl

def quantR (n : Nat) (S T : Int) (zs : List Int) : List Int := outF n (giveF S (T - n).toNat (initF (n / 2) (mkQ S T 0 zs)))

def quantize (zs : List Int) (T : Int) : List Int × Int :=
  if zs.length = 0 then ([], 5) else if 65536 < zs.length then ([], 4) else if inR zs = false ∨ T < zs.length ∨ 65536 < T then ([], 3)
  else (quantR zs.length (sumI zs) T zs, 0)

theorem sumI_le : ∀ (zs : List Int), inR zs = true → sumI zs ≤ 65536 * zs.length
  | [], _ => by simp [sumI]
  | x :: r, h => by
    unfold inR at h; unfold sumI
    split at h
    · simp at h
    · have := sumI_le r h; simp; omega

theorem inR_mem : ∀ {zs : List Int}, inR zs = true → ∀ z ∈ zs, 1 ≤ z ∧ z ≤ 65536
  | [], _, z, hz => by simp at hz
  | x :: r, h, z, hz => by
    unfold inR at h
    split at h
    · simp at h
    · simp only [List.mem_cons] at hz
      rcases hz with rfl | hz
      · omega
      · exact inR_mem h z hz

theorem mkQ_keeps {zs : List Int} {S T : Int} (hr : inR zs = true) (hS0 : 0 ≤ S) (hS : S ≤ 4294967296) (hT0 : 0 ≤ T) (hT : T ≤ 65536) : Keeps zs.length 0 (mkQ S T 0 zs) := by
  intro s hs
  obtain ⟨h1, h2, h3, z, hz, h4⟩ := mkQ_mem S T zs 0 s hs
  have := inR_mem hr z hz
  have := prod_bound hT0 hT this.1 this.2
  simp at h1 h2
  omega

/-- The cells of share i. -/
theorem HQ.cells {w : World} {Bq g n : Nat} {qs : List Sh} (h : HQ w Bq g n qs) (i : Nat) (hi : i < n) :
    w.cell? ⟨g, i * 3, none⟩ = some (.int .i64 (gt qs i).ix) ∧ w.cell? ⟨g, i * 3 + 1, none⟩ = some (.int .i64 (gt qs i).md) ∧ w.cell? ⟨g, i * 3 + 2, none⟩ = some (.int .i64 (gt qs i).co) := by
  have hc : ∀ k, k < 3 → w.cell? ⟨g, i * 3 + k, none⟩ = (gt qs i).cells[k]? := fun k hk => by
    simp only [World.cell?, h.row]; simpa using flat_at qs i _ (gt_some (by rw [h.len]; exact hi)) k hk
  exact ⟨by simpa [Sh.cells] using hc 0 (by omega), by simpa [Sh.cells] using hc 1 (by omega), by simpa [Sh.cells] using hc 2 (by omega)⟩

theorem HQ.frozen {w : World} {Bq g n : Nat} {qs : List Sh} (h : HQ w Bq g n qs) (o : Nat) : w.frozen? ⟨g, o, none⟩ = false := by simp [World.frozen?, h.row]

/-- A share stored. -/
theorem HQ.stored {w : World} {Bq g n : Nat} {qs : List Sh} (h : HQ w Bq g n qs) (i : Nat) (t : Sh) :
    HQ (((w.setCell ⟨g, i * 3, none⟩ (.int .i64 t.ix)).setCell ⟨g, i * 3 + 1, none⟩ (.int .i64 t.md)).setCell ⟨g, i * 3 + 2, none⟩ (.int .i64 t.co)) Bq g n (qs.set i t) :=
  ⟨(Below.heap_setCell _ _ _ _ h.ne).trans ((Below.heap_setCell _ _ _ _ h.ne).trans ((Below.heap_setCell _ _ _ _ h.ne).trans h.box)),
   by rw [flat_set]; exact set_block (set_block (set_block h.row _ _) _ _) _ _, by simp [h.len], h.ne⟩

/-- One cell of a share stored. -/
theorem HQ.other {w : World} {Bq g n : Nat} {qs : List Sh} (h : HQ w Bq g n qs) (o : Nat) (v : Value) (qs' : List Sh) (hq : flat qs' = (flat qs).set o v) (hl : qs'.length = n) : HQ (w.setCell ⟨g, o, none⟩ v) Bq g n qs' :=
  ⟨(Below.heap_setCell _ _ _ _ h.ne).trans h.box, by rw [hq]; exact set_block h.row _ _, hl, h.ne⟩

theorem HQ.grown {w w' : World} {Bq g n : Nat} {qs : List Sh} (h : HQ w Bq g n qs) (hg : w.grownBy w' none) : HQ w' Bq g n qs :=
  ⟨(hg.block _ (Array.getElem?_eq_some_iff.1 h.box).1 (by simp)).trans h.box, (hg.block _ (Array.getElem?_eq_some_iff.1 h.row).1 (by simp)).trans h.row, h.len, h.ne⟩

theorem below_of_grown {w0 w w' : World} {g : Nat} (hb : Below w0.heap.size w0 w) (hg : w.grownBy w' (some g)) (h : w0.heap.size ≤ g) : Below w0.heap.size w0 w' :=
  hb.grown hg hb.size (fun k e => by cases e; exact h)

set_option maxHeartbeats 4000000 in
theorem quantize_good (a : Option Addr) (n cap : Nat) (zs : List Int) (S T : Int) (w : World) (h : RdI w a n zs) (hSum : sumI zs = S) (h0 : 0 < n) (hn : n ≤ 65536) (hr : inR zs = true) (hT : (n : Int) ≤ T) (hT2 : T ≤ 65536) :
    Calls Try.prog 19 #[.slice a n cap, .int .i64 T] w (RetI (quantR n S T zs) 0 w) := by
  obtain ⟨i3, hi3, hz3a, hz3b, hz3c⟩ := info_parts info3
  obtain ⟨i48, hi48, hz48a, hz48b, hz48c⟩ := info_parts info48
  have hlen := h.length
  have hir := inRange_any a n cap zs w h
  rw [hr] at hir
  have hs0 := sumI_nonneg zs hr
  have hs1 := sumI_le zs hr
  rw [hlen, hSum] at hs1
  rw [hSum] at hs0
  have HSUM := Lib.hid hSum; clear hSum
  have HKQ := Lib.hid (mkQ_keeps (T := T) hr hs0 (by omega) (by omega) hT2)
  have HQL := Lib.hid (mkQ_length S T zs 0)
  have HMEM := Lib.hid (inR_mem hr)
  have hR0 := Lib.hid hr
  have H := Lib.hid h
  have HLEN := Lib.hid hlen
  have hb0 : ((n : Int) == 0) = false := beq_eq_false_iff_ne.2 (by omega)
  have hb1 : decide (T < (n : Int)) = false := by simp; omega
  have hb2 : decide (65536 < T) = false := by simp; omega
  clear hlen hr h
  go_enter Try.func19, Try.ntmps19
  go_wp2_with fail
  refine hir.mono ?_
  rintro e w' ⟨rfl, rfl⟩
  clear hir
  go_wp2
  go_loop [6, 36] (fun s i => ∃ (k : Nat) (t : Int), k ≤ n ∧ i = .int .i64 k ∧ s = .int .i64 t ∧ 0 ≤ t ∧ t ≤ 65536 * k ∧ Hid (t + sumI (zs.drop k) = S) ∧ Hid (inR (zs.drop k) = true)) (fun _ i => n - (intOf i).toNat)
  case atStart => exact ⟨0, 0, Nat.zero_le _, rfl, rfl, by omega, by omega, by rw [List.drop_zero, HSUM.out]; exact Int.zero_add _, hR0.out⟩
  case round =>
    obtain ⟨k, t, hk, rfl, rfl, ht0, ht1, hS, hI⟩ := hrel
    by_cases hlt : k < n
    · obtain ⟨b, off, z, rfl, hcell, hd⟩ := H.out.at k hlt
      have hr := hS.out
      have hr2 := hI.out
      rw [hd, sumI] at hr
      rw [hd, inR] at hr2
      have hz : ¬ (z < 1 ∨ 65536 < z) := by intro hz; rw [if_pos hz] at hr2; cases hr2
      rw [if_neg hz] at hr2
      have HR := Lib.hid hr; have HI := Lib.hid hr2; clear hr hd hS hI hr2
      go_wp2
      go_round
      case rel => exact ⟨k + 1, t + z, by omega, by go_num, rfl, by omega, by omega, by rw [← HR.out, Int.add_assoc]; rfl, HI.out⟩
      case measure => simp [intOf]; omega
    · have hst : S = t := by
        have := hS.out
        have hl := HLEN.out
        rw [drop_all (by omega)] at this
        simp [sumI] at this
        exact this.symm
      clear hS hI
      subst hst
      have hkn : n = k := by omega
      subst hkn
      go_wp2_with (at_make; refine wpList_make_full _ rfl _ _ 46 rfl w.heap.size 48 i48 (.agg #[.int .i64 0, .int .i64 0, .int .i64 0]) 3 Try.underlying46 hi48 hz48a hz48b _ _ _ _ n rfl rfl rfl rfl (by rw [hz48c]; omega) (by unfold maxLen; omega) (Nat.le_refl _) ?_)
      intro w1 hown1 hgrow1
      obtain ⟨hrow1, _⟩ := own_block hown1
      have hrow1 : w1.heap[w.heap.size]? = some (.cells (flat (List.replicate n default)).toArray 48 (0, 0)) := by rw [← made_three]; exact hrow1
      have hB1 : Below w.heap.size w w1 := (Below.refl _ w).grown hgrow1 (Nat.le_refl _) (fun k e => by cases e)
      have hsz1 : w.heap.size < w1.heap.size := (Array.getElem?_eq_some_iff.1 hrow1).1
      clear hown1 hgrow1
      have HROW := Lib.hid hrow1; clear hrow1
      have hQ0 : HQ (w1.alloc (.cells #[.slice (some ⟨w.heap.size, 0, none⟩) n n] 46)) w1.heap.size w.heap.size n (partQ (mkQ S T 0 zs) 0) := by
        refine ⟨by show (w1.heap.push _)[w1.heap.size]? = _; simp, ?_, ?_, by omega⟩
        · rw [Below.heap_alloc _ _ _ hsz1, HROW.out]
          simp [partQ, HQL.out, HLEN.out]
        · rw [partQ_length (Nat.zero_le _), HQL.out, HLEN.out]
      have hB2 : Below w.heap.size w (w1.alloc (.cells #[.slice (some ⟨w.heap.size, 0, none⟩) n n] 46)) := hB1.alloc hB1.size _
      obtain ⟨Bq, hBq⟩ : ∃ B, B = w1.heap.size := ⟨_, rfl⟩
      have HQ0 := Lib.hid hQ0; clear hQ0
      have hBqn : Bq ≠ w.heap.size := by omega
      have hBqle : w.heap.size ≤ Bq := by omega
      go_wp2
      rw [← hBq] at *
      clear hBq
      go_loopw [49] (fun x wr => ∃ (j : Nat), j ≤ n ∧ x = .int .i64 j ∧ HQ wr Bq w.heap.size n (partQ (mkQ S T 0 zs) j) ∧ Below w.heap.size w wr) (fun x _ => n - (intOf x).toNat)
      case atStart => exact ⟨0, Nat.zero_le _, rfl, HQ0.out, hB2⟩
      case round =>
        obtain ⟨j, hj, rfl, hQ, hB⟩ := hrel
        clear HQ0 hB2
        have hqc := hQ.cell
        by_cases hlt2 : j < n
        · obtain ⟨b, off, z, rfl, hcell, hd⟩ := (H.out.below hB).at j hlt2
          obtain ⟨q1, q2, q3⟩ := hQ.cells j hlt2
          have hfz := hQ.frozen
          have hzm : z ∈ zs := List.mem_of_mem_drop (by rw [hd]; simp)
          obtain ⟨hz1, hz2⟩ := HMEM.out z hzm
          obtain ⟨hp0, hp1⟩ := prod_bound (T := T) (by omega) hT2 hz1 hz2
          have hnext : (partQ (mkQ S T 0 zs) j).set j ⟨j, 1, 3 * S - 2 * T * z⟩ = partQ (mkQ S T 0 zs) (j + 1) := partQ_set (by have := mkQ_get S T zs 0 j z _ hd; simpa using this)
          have HNX := Lib.hid hnext
          clear hd hzm hnext
          go_wp2
          go_roundw
          case rel => exact ⟨j + 1, by omega, by go_num, by rw [← HNX.out]; exact hQ.stored j ⟨j, 1, 3 * S - 2 * T * z⟩, ((hB.setCell (p := ⟨w.heap.size, _, none⟩) (Nat.le_refl _) _).setCell (p := ⟨w.heap.size, _, none⟩) (Nat.le_refl _) _).setCell (p := ⟨w.heap.size, _, none⟩) (Nat.le_refl _) _⟩
          case measure => simp [intOf]; omega
        · have hjn : n = j := by omega
          have hQf : HQ wr Bq w.heap.size n (mkQ S T 0 zs) := by
            have := hQ
            rw [← hjn] at this
            have e : partQ (mkQ S T 0 zs) n = mkQ S T 0 zs := by unfold partQ; rw [List.take_of_length_le (by rw [HQL.out, HLEN.out]; exact Nat.le_refl _), HQL.out, HLEN.out]; simp
            rwa [e] at this
          clear hQ hjn
          go_wp2_with fail
          refine (init_any Bq w.heap.size n _ _ hQf (by omega)).mono ?_
          rintro e w2 ⟨rfl, hQ2, hg2⟩
          have hB3 := below_of_grown hB hg2 (Nat.le_refl _)
          have hK2 : Keeps n 0 (initF (n / 2) (mkQ S T 0 zs)) := by
            have := HKQ.out.perm (initF_perm (n / 2) _ (by rw [HQL.out, HLEN.out]; omega))
            rwa [HLEN.out] at this
          have HK2 := Lib.hid hK2
          have hlen2 : (initF (n / 2) (mkQ S T 0 zs)).length = n := hQ2.len
          obtain ⟨M, hM⟩ : ∃ M : Nat, T - (n : Int) = (M : Int) := ⟨(T - n).toNat, by omega⟩
          have hfinal : quantR n S T zs = outF n (giveF S M (initF (n / 2) (mkQ S T 0 zs))) := by unfold quantR; rw [hM, Int.toNat_natCast]
          have HFIN := Lib.hid hfinal
          have HM := Lib.hid hM
          have hM1 : M ≤ 65536 := by omega
          generalize initF (n / 2) (mkQ S T 0 zs) = qs0 at *
          clear hqc hQf hg2 hK2 hlen2 hfinal hM
          go_wp2
          go_loopw [73] (fun x wr => ∃ (r : Nat) (qs : List Sh), r ≤ M ∧ x = .int .i64 r ∧ HQ wr Bq w.heap.size n qs ∧ Below w.heap.size w wr ∧ Hid (Keeps n r qs) ∧ Hid (giveF S (M - r) qs = giveF S M qs0)) (fun x _ => M - (intOf x).toNat)
          case atStart => exact ⟨0, qs0, Nat.zero_le _, rfl, hQ2, hB3, HK2, rfl⟩
          case round =>
            obtain ⟨r, qs, hrM, rfl, hQ, hB4, hKp, hG⟩ := hrel
            have hMe := HM.out
            have hqc := hQ.cell
            have hlenq := hQ.len
            have hql : 0 < qs.length := by omega
            by_cases hrlt : r < M
            · obtain ⟨q1, q2, q3⟩ := hQ.cells 0 h0
              simp only [Nat.zero_mul, Nat.zero_add] at q1 q2 q3
              have hfz := hQ.frozen
              have hkp := hKp.out _ (gt_mem hql)
              obtain ⟨_, _, hk3, hk4, hk5, hk6⟩ := hkp
              have hbump : HQ ((wr.setCell ⟨w.heap.size, 1, none⟩ (.int .i64 ((gt qs 0).md + 1))).setCell ⟨w.heap.size, 2, none⟩ (.int .i64 ((gt qs 0).co + 2 * S))) Bq w.heap.size n (bump qs S) :=
                ⟨(Below.heap_setCell _ _ _ _ hBqn).trans ((Below.heap_setCell _ _ _ _ hBqn).trans hQ.box), by rw [bump_flat _ _ hql]; exact set_block (set_block hQ.row _ _) _ _, by simp [bump, hlenq], hBqn⟩
              have hB5 : Below w.heap.size w ((wr.setCell ⟨w.heap.size, 1, none⟩ (.int .i64 ((gt qs 0).md + 1))).setCell ⟨w.heap.size, 2, none⟩ (.int .i64 ((gt qs 0).co + 2 * S))) := (hB4.setCell (p := ⟨w.heap.size, _, none⟩) (Nat.le_refl _) _).setCell (p := ⟨w.heap.size, _, none⟩) (Nat.le_refl _) _
              have hrT : (r : Int) < T - (n : Int) := by omega
              have hKn : Keeps n (r + 1) (downF n (bump qs S) 0).1 := (hKp.out.bump (S := S) hql hs0 (by omega)).perm (downF_perm _ _ _ (by simp [bump]; exact hql))
              have hGn : giveF S (M - (r + 1)) (downF n (bump qs S) 0).1 = giveF S M qs0 := by
                rw [← hG.out, show M - r = (M - (r + 1)) + 1 by omega, giveF, hlenq]
              have HKN := Lib.hid hKn; have HGN := Lib.hid hGn; have HB := Lib.hid hbump; have HB5 := Lib.hid hB5
              clear hKn hGn hbump hMe hKp hG hlenq hB5
              go_wp2_with fail
              refine (fix_any Bq w.heap.size n (bump qs S) _ HB.out (by omega) h0).mono ?_
              rintro e w3 ⟨rfl, hQ3, hg3⟩
              clear q1 q2 q3 hfz hqc
              go_wp2
              go_roundw
              case rel => exact ⟨r + 1, _, by omega, by go_num, hQ3, below_of_grown HB5.out hg3 (Nat.le_refl _), HKN, HGN⟩
              case measure => simp [intOf]; omega
            · have hrT : ¬ (r : Int) < T - (n : Int) := by omega
              have hge : quantR n S T zs = outF n qs := by
                rw [HFIN.out, ← hG.out, show M - r = 0 by omega]; rfl
              have HGE := Lib.hid hge
              clear hge hG hMe
              obtain ⟨wo, rfl⟩ : ∃ wo : World, wo = wr := ⟨_, rfl⟩
              go_wp2_with (at_make; refine wpList_make_full _ rfl _ _ 22 rfl w.heap.size 3 i3 (.int .i64 0) 1 Try.underlying22 hi3 hz3a hz3b _ _ _ _ n rfl rfl rfl rfl (by rw [hz3c]; omega) (by unfold maxLen; omega) hB4.size ?_)
              intro w5 hown5 hgrow5
              obtain ⟨hout5, _⟩ := own_block hown5
              have hout5 : w5.heap[wo.heap.size]? = some (.cells ((List.replicate n (0 : Int)).map (Value.int .i64)).toArray 3 (0, 0)) := by have := made_one (.int .i64 0) n; rw [Nat.mul_one] at this; rw [List.map_replicate, ← this]; exact hout5
              have hB6 : Below w.heap.size w w5 := hB4.grown hgrow5 hB4.size (fun k e => by cases e)
              have hQ5 := hQ.grown hgrow5
              have hKp' : Hid (Keeps n M qs) := by have h1 := hKp.out; have : r = M := by omega
                                                   rw [this] at h1; exact h1
              have hgo : w.heap.size < wo.heap.size := (Array.getElem?_eq_some_iff.1 hQ.row).1
              have hgoB : Bq < wo.heap.size := (Array.getElem?_eq_some_iff.1 hQ.box).1
              have hqc5 := hQ5.cell
              generalize hG0 : wo.heap.size = G at *
              have HG0 := Lib.hid hG0
              clear hown5 hgrow5 hqc hQ hKp hG0
              go_wp2
              go_loopw [99] (fun x wr => ∃ (j : Nat) (acc : List Int), j ≤ n ∧ x = .int .i64 j ∧ HQ wr Bq w.heap.size n qs ∧ Below w.heap.size w wr ∧ wr.heap[G]? = some (.cells (acc.map (Value.int .i64)).toArray 3 (0, 0)) ∧ Hid (acc.length = n) ∧
                  Hid ((qs.drop j).foldl (fun out s => out.set s.ix.toNat s.md) acc = outF n qs)) (fun x _ => n - (intOf x).toNat)
              case atStart => exact ⟨0, _, Nat.zero_le _, rfl, hQ5, hB6, hout5, by simp [Hid], rfl⟩
              case round =>
                obtain ⟨j, acc, hj, rfl, hQ, hB7, hO, hal, hF⟩ := hrel
                clear hqc5 hout5 hQ5 hB6
                by_cases hjn : j < n
                · obtain ⟨q1, q2, q3⟩ := hQ.cells j hjn
                  have hjq : j < qs.length := by rw [hQ.len]; exact hjn
                  have hkp := hKp'.out _ (gt_mem hjq)
                  have hf := hF.out
                  rw [drop_gt hjq, List.foldl_cons] at hf
                  obtain ⟨hx1, hx2, hk3, hk4, hk5, hk6⟩ := hkp
                  generalize gt qs j = sh at *
                  obtain ⟨ix, md, co⟩ := sh
                  simp only at q1 q2 q3 hf hx1 hx2 hk3 hk4 hk5 hk6
                  obtain ⟨x, rfl⟩ := Int.eq_ofNat_of_zero_le hx1
                  rw [Int.toNat_natCast] at hf
                  have hxn : x < n := by omega
                  have hoc : wr.cell? ⟨G, x, none⟩ = some (.int .i64 (acc.getD x 0)) := by
                    have hxl : x < acc.length := by rw [hal.out]; exact hxn
                    simp [World.cell?, hO, hxl]
                  have hof : wr.frozen? ⟨G, x, none⟩ = false := by simp [World.frozen?, hO]
                  have hGlt : G < wr.heap.size := (Array.getElem?_eq_some_iff.1 hO).1
                  have hglt : w.heap.size < wr.heap.size := by omega
                  have HF := Lib.hid hf
                  clear hf hF hjq hx1 hx2
                  generalize acc.getD x 0 = old at hoc
                  go_wp2
                  go_roundw
                  case rel =>
                    refine ⟨j + 1, acc.set x md, by omega, by go_num, ?_, ?_, ?_, ?_, HF.out⟩
                    · refine HQ.grown ?_ (World.grownBy_alloc _ _ _)
                      exact ⟨(Below.heap_setCell _ _ _ _ (by show Bq ≠ G; omega)).trans hQ.box, (Below.heap_setCell _ _ _ _ (by show w.heap.size ≠ G; omega)).trans hQ.row, hQ.len, hQ.ne⟩
                    · exact (hB7.setCell (p := ⟨G, x, none⟩) (by show w.heap.size ≤ G; omega) _).alloc (by have := hB7.size; simp [World.setCell]; exact this) _
                    · rw [Below.heap_alloc _ _ _ (by simp [World.setCell]; exact hGlt), set_block hO]
                      simp
                    · simp [Hid, hal.out]
                  case measure => simp [intOf]; omega
                · have hf := hF.out
                  rw [drop_all (by rw [hQ.len]; omega)] at hf
                  simp only [List.foldl_nil] at hf
                  have HF := Lib.hid hf; clear hf hF
                  go_wp2
                  go_ret2
                  rw [HGE.out, ← HF.out]
                  exact ⟨_, rfl, by rw [hal.out]; exact block_own hO (by simp [hal.out]) (by omega) (by unfold maxLen; omega), hB7⟩

end Go.Proofs.Ytcihombiijjndaa
