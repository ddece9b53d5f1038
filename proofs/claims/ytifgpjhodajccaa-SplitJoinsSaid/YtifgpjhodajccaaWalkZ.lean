/-
  The walk of the reference's Join. Condition: the messages are few and short.
-/
import Derived.Test.YtifgpjhodajccaaPlainO
namespace Go.Proofs.Ytifgpjhodajccaa
open Go.RowKit

theorem miss_some {L : Tab} {tn k : Nat} (h : ¬ 0 < (missGo L tn).length) (hk : k < tn) : lookL L (k : Int) ≠ none := fun hl => by
  have h1 : missGo L tn = [] := List.eq_nil_of_length_eq_zero (by omega)
  have : (k : Int) ∈ missGo L tn := by
    unfold missGo
    exact List.mem_map.2 ⟨k, List.mem_filter.2 ⟨List.mem_range.2 hk, by simp [hl]⟩, rfl⟩
  rw [h1] at this; cases this

theorem bwB {w W : World} {S : ByteArray} (h : Below w.heap.size w W) : Below w.heap.size w (Lib.bytesWorld W 5 S) :=
  h.trans ((bytesWorld_below W 5 S).mono h.size)

/-- The bytes of a string, written out. -/
theorem conv_run (W : World) (S : ByteArray) : (convert 9 22 (.string S)).run Try.prog W = .ok (.slice (some ⟨W.heap.size, 0, none⟩) S.size (grownCap W S.size 0 5)) (Lib.bytesWorld W 5 S) :=
  Lib.run_convert_string_bytes (P := Try.prog) W 9 22 5 S Try.underlying9 Try.underlying22 Try.underlying5

theorem conv_rd (W : World) (xs : List Int) (hx : ∀ c ∈ xs, 0 ≤ c ∧ c < 256) (hl : xs.length ≤ 1000000) : RdU (Lib.bytesWorld W 5 (strOfNums xs)) (some ⟨W.heap.size, 0, none⟩) xs.length xs := by
  refine ⟨by simp, by omega, fun k hk => ⟨W.heap.size, 0, rfl, ?_⟩⟩
  rw [Nat.zero_add, Lib.bytesWorld_cell W 5 (strOfNums xs) k (by rw [strOfNums_size]; exact hk), strOf_at hx k hk]
  simp [hk]

set_option maxRecDepth 100000 in
set_option maxHeartbeats 8000000 in
theorem refJoin_any (a : Option Addr) (n cap : Nat) (ms : List Msg) (w : World) (h : RdM w a n ms) (hn : n ≤ 40) (hsh : ShortM ms) :
    Calls Try.prog 16 #[.slice a n cap] w (RetUr (joinF ms).2 (joinF ms).1 w) := by
  have HC := Lib.hid (refMissing_any a n cap ms w h (by omega) hsh)
  have H := Lib.hid h
  have HL := Lib.hid h.len
  have HSH := Lib.hid hsh
  have HD := Lib.hid (collF_hd ms)
  have HTS := Lib.hid (tab_short hsh)
  clear h hsh
  by_cases herr : (collF ms).1 = 0
  · obtain ⟨m0, r, L, hms, hcf, hT, hv, hp⟩ := coll_zero herr
    have hd := HD.out herr
    have hts := HTS.out herr
    rw [hcf] at hd hts
    simp only at hd hts
    obtain ⟨tn, htn⟩ := Int.eq_ofNat_of_zero_le hd.2.2.1
    have htn16 : tn ≤ 16 := by omega
    have hmf : missF ms = (0, missGo L tn) := by
      unfold missF
      rw [if_neg (by rw [herr]; simp), hcf]; simp [htn]
    obtain ⟨hj1, hj2, hj3⟩ := join_ref hms hcf hT hv hp htn
    have hn0 : 0 < n := by rw [← HL.out, hms]; simp
    have hm0 : ms[0]? = some m0 := by rw [hms]; rfl
    rw [hmf] at HC
    simp only at HC
    have HJ := Lib.hid hj1
    have HT := Lib.hid hT
    have HM0 := Lib.hid hm0
    have HTB := Lib.hid hts
    obtain ⟨ss0, i0, t0, p0⟩ := m0
    simp only at htn hj2 hj3
    subst htn
    have HJ2 := Lib.hid hj2
    have HJ3 := Lib.hid hj3
    clear HD HTS hmf hcf hT hms herr hd hm0 hv hp hj1 hts hj2 hj3
    have hn0i : (0 : Int) < (n : Int) := by omega
    go_enter Try.func16, Try.ntmps16
    go_wp2_with fail
    refine HC.out.mono ?_
    rintro e w2 hret
    obtain ⟨a2, cap2, rfl, _, hBw⟩ := hret.open
    clear hret HC
    have hs2 := hBw.size
    by_cases hmi : 0 < (missGo L tn).length
    · have hd1 : decide ((0 : Int) < ((missGo L tn).length : Int)) = true := by simp; omega
      have HJa := HJ.out
      rw [if_pos hmi] at HJa
      have HJb := Lib.hid HJa
      clear HJ HJa
      go_wp2_with fail
      go_ret2
      rw [HJb.out]
      exact ⟨none, 0, rfl, ⟨rfl, by simp, fun k hk => by simp at hk⟩, hBw⟩
    · have hd1 : decide ((0 : Int) < ((missGo L tn).length : Int)) = false := decide_eq_false (by omega)
      have HJa := HJ.out
      rw [if_neg hmi] at HJa
      have HJb := Lib.hid HJa
      obtain ⟨b, off, sa, sc, m1, rfl, hmk1, hrs, c0, c1, c2, c3⟩ : ∃ b off sa sc m1, a = some ⟨b, off, none⟩ ∧ ms[0]? = some m1 ∧ RdS w2 sa m1.1.length m1.1 ∧ w2.cell? ⟨b, off, none⟩ = some (.slice sa m1.1.length sc) ∧ w2.cell? ⟨b, off + 1, none⟩ = some (.int .i64 m1.2.1) ∧ w2.cell? ⟨b, off + 2, none⟩ = some (.int .i64 m1.2.2.1) ∧ w2.cell? ⟨b, off + 3, none⟩ = some (.int .i64 m1.2.2.2) := by
        obtain ⟨b, off, m, e, hm, ⟨⟨sa, sc, c0, hr⟩, c1, c2, c3⟩, _⟩ := (H.out.below hBw).at 0 hn0
        exact ⟨b, off, sa, sc, m, e, hm, hr, by simpa using c0, by simpa using c1, by simpa using c2, by simpa using c3⟩
      have em : m1 = (ss0, i0, (tn : Int), p0) := by
        have := HM0.out
        rw [hmk1] at this
        exact Option.some.inj this
      subst em
      simp only at hrs c0 c1 c2 c3
      obtain ⟨hl1, hl2, hl3⟩ := HSH.out _ (List.mem_of_getElem? hmk1)
      simp only at hl1 hl2 hl3
      have HC0 := Lib.hid (contents_any sa ss0.length sc ss0 i0 tn p0 w2 hrs (by omega) (by omega))
      have hlb := lt_of_cell c1
      simp only at hlb
      have HMI : Hid (∀ k : Nat, k < tn → lookL L (k : Int) ≠ none) := Lib.hid fun k hk => miss_some hmi hk
      clear HJ HJa hmk1 hrs hl1
      go_wp2_with fail
      refine HC0.out.mono ?_
      rintro e w3 ⟨rfl, hb3⟩
      have c2' := (hb3.cell (p := ⟨b, off + 2, none⟩) hlb).trans c2
      have c3' := (hb3.cell (p := ⟨b, off + 3, none⟩) hlb).trans c3
      have hBw3 : Below w.heap.size w w3 := below_tr hBw hs2 hb3
      clear c0 c1 c2 c3 HC0
      by_cases htz : tn = 0
      · subst htz
        have hpay := HJ3.out rfl
        have hsz : (strOfNums (joinS ss0)).size = (joinS ss0).length := strOfNums_size _
        have hd3 : decide (4096 < (((joinS ss0).length : Nat) : Int)) = false := decide_eq_false (by omega)
        have HJc := HJb.out
        rw [hpay, if_neg (by omega), if_neg (by simp)] at HJc
        have HJd := Lib.hid HJc
        have hcv := conv_run
        have HRD := Lib.hid (fun W => conv_rd W (joinS ss0) hl3 (by omega))
        clear hpay HJc HJb
        go_wp2_with fail
        go_quiet (fail)
        go_wp2_with fail
        go_ret2
        rw [HJd.out]
        exact ⟨_, _, rfl, HRD.out (w3.drewN nq), below_tr hBw3 hBw3.size ((below_drewN (Below.refl _ w3) nq).trans (bytesWorld_below (w3.drewN nq) _ _))⟩
      · have hd2 : decide ((0 : Int) < (tn : Int)) = true := by simp; omega
        have hd2n : decide (0 < tn) = true := by simp; omega
        have hpay := HJ2.out (by omega)
        have H3 := Lib.hid (H.out.below hBw3)
        have HTT := HT.out
        have HCL : Hid (∀ k, k ≤ tn → (conc L k).length ≤ 32000) := Lib.hid (fun k hk => by
          have h1 := conc_le L k (16 - k)
          rw [show k + (16 - k) = 16 by omega] at h1
          have h2 : ∀ k, k ≤ 16 → (conc L k).length ≤ 2000 * k := by
            intro k
            induction k with
            | zero => intro _; simp [conc]
            | succ k ih =>
              intro hk
              rw [conc_succ, List.length_append]
              have := ih (by omega)
              cases hl : lookL L (k : Int) with
              | none => simp; omega
              | some x => have := (HTB.out _ (lookL_mem hl)).1; simp only [Option.getD_some] at *; omega
          have := h2 16 (by omega)
          omega)
        have HCB : Hid (∀ c ∈ payL L, 0 ≤ c ∧ c < 256) := Lib.hid (fun c hc => by
          obtain ⟨l, hl, hcl⟩ := List.mem_flatten.1 hc
          obtain ⟨k, hk, rfl⟩ := List.mem_map.1 hl
          cases hlk : lookL L (k : Int) with
          | none => simp [hlk] at hcl
          | some y => simp [hlk] at hcl; exact (HTB.out _ (lookL_mem hlk)).2 c hcl)
        have HPAY := Lib.hid hpay
        clear hpay HTT
        have hc00 : strOfNums (conc L 0) = ⟨#[]⟩ := rfl
        go_wp2_with fail
        go_loopg [6, 7] tn (fun r v x wr => ∃ k : Nat, k + r = tn ∧ x = .int .i64 k ∧ v = .string (strOfNums (conc L k)) ∧ Below w3.heap.size w3 wr)
        case atStart => exact ⟨0, by omega, rfl, rfl, Below.refl _ _⟩
        case round =>
          obtain ⟨k, hk, rfl, rfl, hB⟩ := hrel
          have hBs := hB.size
          have hlb3 : b < w3.heap.size := Nat.lt_of_lt_of_le hlb hb3.size
          have e2 := (hB.cell (p := ⟨b, off + 2, none⟩) hlb3).trans c2'
          have e3 := (hB.cell (p := ⟨b, off + 3, none⟩) hlb3).trans c3'
          have hM := H3.out.below hB
          by_cases hlt : k < tn
          · have q1 : (k : Int) < (tn : Int) := by omega
            have HFI := Lib.hid (find_any (some ⟨b, off, none⟩) n cap ms k wr hM)
            go_wp2_with fail
            refine HFI.out.mono ?_
            rintro e w7 ⟨hfp, rfl⟩
            rcases hfp.look HT.out with ⟨_, hlo⟩ | ⟨j, m, rfl, hmj, hmi', hlo⟩
            · exact absurd hlo (HMI.out k hlt)
            · have hjn : j < n := by rw [← HL.out]; exact (List.getElem?_eq_some_iff.1 hmj).1
              obtain ⟨b9, off9, m9, e9, hmk9, ⟨⟨sa9, sc9, f0, hrs9⟩, f1, f2, f3⟩, _⟩ := hM.at j hjn
              cases e9
              obtain rfl : m9 = m := by
                rw [hmj] at hmk9
                exact (Option.some.inj hmk9).symm
              obtain ⟨ss9, i9, t9, p9⟩ := m9
              obtain ⟨g1, g2, g3⟩ := HSH.out _ (List.mem_of_getElem? hmj)
              simp only at f0 f1 f2 f3 hrs9 g1 g2 g3
              have HC9 := Lib.hid (contents_any sa9 ss9.length sc9 ss9 i9 t9 p9 wr hrs9 (by omega) (by omega))
              have HCS : Hid (strOfNums (conc L k) ++ strOfNums (joinS ss9) = strOfNums (conc L (k + 1))) := Lib.hid (by
                rw [conc_succ, hlo, strOf_append]; rfl)
              have q2 : (0 : Int) ≤ (j : Int) := by omega
              have q3 : (j : Int) < (n : Int) := by omega
              have hsum : (strOfNums (conc L k)).size + (strOfNums (joinS ss9)).size ≤ 9223372036854775807 := by
                have := HCL.out k (by omega)
                rw [strOfNums_size, strOfNums_size]; omega
              clear hfp hlo hmj hmk9 hM hrs9 hmi' HFI
              go_wp2_with fail
              refine HC9.out.mono ?_
              rintro e w8 ⟨rfl, hb8⟩
              go_wp2_with fail
              go_roundg (tn - (k + 1))
              case rel => exact ⟨k + 1, by omega, by go_num, by rw [HCS.out], below_tr hB hBs hb8⟩
              case measure => omega
          · obtain rfl : k = tn := by omega
            have hBw9 : Below w.heap.size w wr := below_tr hBw3 hBw3.size hB
            have hcl := HCL.out k (Nat.le_refl _)
            have hsz : (strOfNums (conc L k)).size = (conc L k).length := strOfNums_size _
            have HJc := HJb.out
            rw [HPAY.out] at HJc
            have hcb := HCB.out
            rw [HPAY.out] at hcb
            by_cases hlong : 4096 < (conc L k).length
            · have hd3 : decide (4096 < (((conc L k).length : Nat) : Int)) = true := by simp; omega
              rw [if_pos hlong] at HJc
              have HJd := Lib.hid HJc
              clear HJc HJb hcb
              go_wp2_with fail
              go_ret2
              rw [HJd.out]
              exact ⟨none, 0, rfl, ⟨rfl, by simp, fun k hk => by simp at hk⟩, hBw9⟩
            · have hd3 : decide (4096 < (((conc L k).length : Nat) : Int)) = false := by simp; omega
              rw [if_neg hlong] at HJc
              obtain ⟨WB, cB, hcvB, hrB, hbB, hsB, _, _⟩ := conv_str wr.drew (conc L k) hcb (by omega)
              obtain ⟨WC, cC, hcvC, hrC, hbC, hsC, _, _⟩ := conv_str WB (conc L k) hcb (by omega)
              have hdr : wr.drew.heap.size = wr.heap.size := rfl
              rw [hdr] at hcvB hrB hbB hsB
              have hbB' : Below wr.heap.size wr WB := ⟨hbB.os, hbB.tape, hbB.output, hbB.size, hbB.block⟩
              have hlb9 : b < wr.heap.size := lt_of_cell e2
              have k2 : WB.cell? ⟨b, off + 2, none⟩ = some (.int .i64 k) := (hbB'.cell (p := ⟨b, off + 2, none⟩) hlb9).trans e2
              have k3 : WB.cell? ⟨b, off + 3, none⟩ = some (.int .i64 p0) := (hbB'.cell (p := ⟨b, off + 3, none⟩) hlb9).trans e3
              have hPA := refParity_any (some ⟨wr.heap.size, 0, none⟩) (conc L k).length cB (conc L k) WB hrB hcb (by omega)
              have hBB : Below w.heap.size w WB := below_tr hBw9 hBw9.size hbB'
              have HBC := Lib.hid (below_tr hBB hBB.size hbC)
              have HRC := Lib.hid hrC
              obtain ⟨pn, hpn⟩ : ∃ pn, parF (conc L k) 0 = pn := ⟨_, rfl⟩
              rw [hpn] at hPA HJc
              have HPA := Lib.hid hPA
              have HBB := Lib.hid hBB
              clear hcb hpn hM hPA hBB hrB hbB hbB' hrC hbC hdr hsB hsC
              by_cases hp9 : p0 = (pn : Int)
              · have hp1 : ((pn : Int) == p0) = true := by simp [hp9]
                have hp2 : ((pn : Int) != p0) = false := by simp [hp9]
                rw [if_neg (by simp [hp9])] at HJc
                have HJd := Lib.hid HJc
                clear HJc HJb hp9
                go_wp2_with fail
                refine wp_region_held_drew (S := fun w' => w'.cell? ⟨b, off + 2, none⟩ = some (.int .i64 k) ∧ w'.cell? ⟨b, off + 3, none⟩ = some (.int .i64 p0)) (by kernel_rfl) ⟨e2, e3⟩ (fun hHeld => ?_)
                refine wpAnyH_take (i := 0) (oi := ({ dst := some 50, op := Op.move (Operand.tmp 0), type := 33, pos := "ref.go:140", after := #[], guard := none } : Oper)) (v := ?_) rfl (by kernel_rfl) (by kernel_rfl) (by kernel_rfl) (fun _ _ _ h => h) (Or.inl ⟨by rfl, ?_⟩) (by assumption) ?_
                rotate_left
                · (intro w hSw; (try dsimp only at hSw); go_simp; try with_reducible rfl)
                try simp only [Act.put, List.setIfInBounds_toArray, List.set_cons_zero, List.set_cons_succ]
                refine wpAnyH_take (i := 1) (oi := ({ dst := some 51, op := Op.indexAddr 33 (Operand.tmp 50) (Operand.const (Value.int IntKind.i64 0)), type := 0, pos := "ref.go:140", after := #[{ on := 0, ground := Ground.data }], guard := none } : Oper)) (v := ?_) rfl (by kernel_rfl) (by kernel_rfl) (by kernel_rfl) (fun _ _ _ h => h) (Or.inl ⟨by rfl, ?_⟩) (by assumption) ?_
                rotate_left
                · (intro w hSw; (try dsimp only at hSw); go_simp; try with_reducible rfl)
                try simp only [Act.put, List.setIfInBounds_toArray, List.set_cons_zero, List.set_cons_succ]
                refine wpAnyH_take (i := 2) (oi := ({ dst := some 52, op := Op.fieldAddr 42 (Operand.tmp 51) 1, type := 0, pos := "ref.go:140", after := #[{ on := 1, ground := Ground.data }], guard := none } : Oper)) (v := ?_) rfl (by kernel_rfl) (by kernel_rfl) (by kernel_rfl) (fun _ _ _ h => h) (Or.inl ⟨by rfl, ?_⟩) (by assumption) ?_
                rotate_left
                · (intro w hSw; (try dsimp only at hSw); go_simp; try with_reducible rfl)
                try simp only [Act.put, List.setIfInBounds_toArray, List.set_cons_zero, List.set_cons_succ]
                refine wpAnyH_take (i := 3) (oi := ({ dst := some 53, op := Op.fieldAddr 40 (Operand.tmp 52) 1, type := 0, pos := "ref.go:140", after := #[{ on := 2, ground := Ground.data }], guard := none } : Oper)) (v := ?_) rfl (by kernel_rfl) (by kernel_rfl) (by kernel_rfl) (fun _ _ _ h => h) (Or.inl ⟨by rfl, ?_⟩) (by assumption) ?_
                rotate_left
                · (intro w hSw; (try dsimp only at hSw); go_simp; try with_reducible rfl)
                try simp only [Act.put, List.setIfInBounds_toArray, List.set_cons_zero, List.set_cons_succ]
                refine wpAnyH_take (i := 4) (oi := ({ dst := some 54, op := Op.load 3 (Operand.tmp 53), type := 3, pos := "ref.go:140", after := #[{ on := 3, ground := Ground.data }], guard := none } : Oper)) (v := ?_) rfl (by kernel_rfl) (by kernel_rfl) (by kernel_rfl) (fun _ _ _ h => h) (Or.inl ⟨by rfl, ?_⟩) (by assumption) ?_
                rotate_left
                · (intro w hSw; (try dsimp only at hSw); go_simp; try with_reducible rfl)
                try simp only [Act.put, List.setIfInBounds_toArray, List.set_cons_zero, List.set_cons_succ]
                refine wpAnyH_take (i := 5) (oi := ({ dst := some 55, op := Op.binOp BinOp.gtr 3 (Operand.tmp 54) (Operand.const (Value.int IntKind.i64 0)) 3, type := 4, pos := "ref.go:140", after := #[{ on := 4, ground := Ground.data }], guard := none } : Oper)) (v := ?_) rfl (by kernel_rfl) (by kernel_rfl) (by kernel_rfl) (fun _ _ _ h => h) (Or.inl ⟨by rfl, ?_⟩) (by assumption) ?_
                rotate_left
                · (intro w hSw; (try dsimp only at hSw); go_simp; try with_reducible rfl)
                try simp only [Act.put, List.setIfInBounds_toArray, List.set_cons_zero, List.set_cons_succ]
                refine wpAnyH_take (i := 6) (oi := ({ dst := some 56, op := Op.move (Operand.tmp 55), type := 4, pos := "ref.go:140", after := #[{ on := 5, ground := Ground.data }], guard := none } : Oper)) (v := ?_) rfl (by kernel_rfl) (by kernel_rfl) (by kernel_rfl) (fun _ _ _ h => h) (Or.inl ⟨by rfl, ?_⟩) (by assumption) ?_
                rotate_left
                · (intro w hSw; (try dsimp only at hSw); go_simp; try with_reducible rfl)
                try simp only [Act.put, List.setIfInBounds_toArray, List.set_cons_zero, List.set_cons_succ]
                refine wpAnyH_take (i := 7) (oi := ({ dst := some 57, op := Op.move (Operand.tmp 6), type := 9, pos := "ref.go:140", after := #[{ on := 6, ground := Ground.guard }], guard := some (6, true) } : Oper)) (v := ?_) rfl (by kernel_rfl) (by kernel_rfl) (by kernel_rfl) (fun _ _ _ h => h) (Or.inl ⟨by rfl, ?_⟩) (by assumption) ?_
                rotate_left
                · (intro w hSw; (try dsimp only at hSw); go_simp; try with_reducible rfl)
                try simp only [Act.put, List.setIfInBounds_toArray, List.set_cons_zero, List.set_cons_succ]
                refine wpAnyH_take (i := 10) (oi := ({ dst := some 60, op := Op.move (Operand.tmp 0), type := 33, pos := "ref.go:140", after := #[{ on := 6, ground := Ground.guard }], guard := some (6, true) } : Oper)) (v := ?_) rfl (by kernel_rfl) (by kernel_rfl) (by kernel_rfl) (fun _ _ _ h => h) (Or.inl ⟨by rfl, ?_⟩) (by assumption) ?_
                rotate_left
                · (intro w hSw; (try dsimp only at hSw); go_simp; try with_reducible rfl)
                try simp only [Act.put, List.setIfInBounds_toArray, List.set_cons_zero, List.set_cons_succ]
                refine wpAnyH_take (i := 11) (oi := ({ dst := some 61, op := Op.indexAddr 33 (Operand.tmp 60) (Operand.const (Value.int IntKind.i64 0)), type := 0, pos := "ref.go:140", after := #[{ on := 10, ground := Ground.data }, { on := 6, ground := Ground.guard }], guard := some (6, true) } : Oper)) (v := ?_) rfl (by kernel_rfl) (by kernel_rfl) (by kernel_rfl) (fun _ _ _ h => h) (Or.inl ⟨by rfl, ?_⟩) (by assumption) ?_
                rotate_left
                · (intro w hSw; (try dsimp only at hSw); go_simp; try with_reducible rfl)
                try simp only [Act.put, List.setIfInBounds_toArray, List.set_cons_zero, List.set_cons_succ]
                refine wpAnyH_take (i := 12) (oi := ({ dst := some 62, op := Op.fieldAddr 42 (Operand.tmp 61) 1, type := 0, pos := "ref.go:140", after := #[{ on := 11, ground := Ground.data }, { on := 6, ground := Ground.guard }], guard := some (6, true) } : Oper)) (v := ?_) rfl (by kernel_rfl) (by kernel_rfl) (by kernel_rfl) (fun _ _ _ h => h) (Or.inl ⟨by rfl, ?_⟩) (by assumption) ?_
                rotate_left
                · (intro w hSw; (try dsimp only at hSw); go_simp; try with_reducible rfl)
                try simp only [Act.put, List.setIfInBounds_toArray, List.set_cons_zero, List.set_cons_succ]
                refine wpAnyH_take (i := 13) (oi := ({ dst := some 63, op := Op.fieldAddr 40 (Operand.tmp 62) 2, type := 0, pos := "ref.go:140", after := #[{ on := 12, ground := Ground.data }, { on := 6, ground := Ground.guard }], guard := some (6, true) } : Oper)) (v := ?_) rfl (by kernel_rfl) (by kernel_rfl) (by kernel_rfl) (fun _ _ _ h => h) (Or.inl ⟨by rfl, ?_⟩) (by assumption) ?_
                rotate_left
                · (intro w hSw; (try dsimp only at hSw); go_simp; try with_reducible rfl)
                try simp only [Act.put, List.setIfInBounds_toArray, List.set_cons_zero, List.set_cons_succ]
                refine wpAnyH_take (i := 14) (oi := ({ dst := some 64, op := Op.load 3 (Operand.tmp 63), type := 3, pos := "ref.go:140", after := #[{ on := 13, ground := Ground.data }, { on := 6, ground := Ground.guard }], guard := some (6, true) } : Oper)) (v := ?_) rfl (by kernel_rfl) (by kernel_rfl) (by kernel_rfl) (fun _ _ _ h => h) (Or.inl ⟨by rfl, ?_⟩) (by assumption) ?_
                rotate_left
                · (intro w hSw; (try dsimp only at hSw); go_simp; try with_reducible rfl)
                try simp only [Act.put, List.setIfInBounds_toArray, List.set_cons_zero, List.set_cons_succ]
                refine wpAnyH_ready (rs := [8]) (by kernel_rfl) (by simp) ?_
                refine AllReadyH.cons (o := ({ dst := some 58, op := Op.convert 9 22 (Operand.tmp 57), type := 22, pos := "ref.go:140", after := #[{ on := 7, ground := Ground.data }, { on := 6, ground := Ground.guard }], guard := some (6, true) } : Oper)) rfl (fun K hK => ?_) AllReadyH.nil
                go_simp
                refine hK.out _ _ ⟨k2, k3⟩ (fun hHeld2 => ?_)
                clear hK K
                try simp only [Act.put, List.setIfInBounds_toArray, List.set_cons_zero, List.set_cons_succ]
                refine wpAnyH_ready (rs := [9]) (by kernel_rfl) (by simp) ?_
                refine AllReadyH.cons (o := ({ dst := some 59, op := Op.call { callee := Callee.value (Operand.func 9), args := #[Operand.tmp 58], argTypes := #[22] }, type := 3, pos := "ref.go:140", after := #[{ on := 8, ground := Ground.data }, { on := 6, ground := Ground.chain }, { on := 6, ground := Ground.guard }], guard := some (6, true) } : Oper)) rfl (fun K hK => ?_) AllReadyH.nil
                go_simp
                refine HPA.out.mono ?_
                rintro re w5 ⟨rfl, rfl⟩
                go_wp2_with fail
                refine hK.out _ _ ⟨k2, k3⟩ (fun hHeld3 => ?_)
                clear hK K
                try simp only [Act.put, List.setIfInBounds_toArray, List.set_cons_zero, List.set_cons_succ]
                refine wpAnyH_take (i := 15) (oi := ({ dst := some 65, op := Op.binOp BinOp.neq 3 (Operand.tmp 59) (Operand.tmp 64) 3, type := 4, pos := "ref.go:140", after := #[{ on := 9, ground := Ground.data }, { on := 14, ground := Ground.data }, { on := 6, ground := Ground.guard }], guard := some (6, true) } : Oper)) (v := ?_) rfl (by kernel_rfl) (by kernel_rfl) (by kernel_rfl) (fun _ _ _ h => h) (Or.inl ⟨by rfl, ?_⟩) (by assumption) ?_
                rotate_left
                · (intro w hSw; (try dsimp only at hSw); go_simp; try with_reducible rfl)
                try simp only [Act.put, List.setIfInBounds_toArray, List.set_cons_zero, List.set_cons_succ]
                refine wpAnyH_take (i := 16) (oi := ({ dst := some 66, op := Op.pick (Operand.tmp 56) (Operand.tmp 65) (Operand.const (Value.bool false)), type := 4, pos := "ref.go:140", after := #[{ on := 6, ground := Ground.data }, { on := 15, ground := Ground.data }], guard := none } : Oper)) (v := ?_) rfl (by kernel_rfl) (by kernel_rfl) (by kernel_rfl) (fun _ _ _ h => h) (Or.inl ⟨by rfl, ?_⟩) (by assumption) ?_
                rotate_left
                · (intro w hSw; (try dsimp only at hSw); go_simp; try with_reducible rfl)
                try simp only [Act.put, List.setIfInBounds_toArray, List.set_cons_zero, List.set_cons_succ]
                refine wpAnyH_done (by kernel_rfl) ?_ _
                go_wp2_with fail
                go_ret2
                rw [HJd.out]
                exact ⟨_, _, rfl, HRC.out, HBC.out⟩
              · have hp1 : ((pn : Int) == p0) = false := by simp; exact fun h => hp9 h.symm
                have hp2 : ((pn : Int) != p0) = true := by simp; exact fun h => hp9 h.symm
                rw [if_pos ⟨by omega, hp9⟩] at HJc
                have HJd := Lib.hid HJc
                clear HJc HJb hp9
                go_wp2_with fail
                refine wp_region_held_drew (S := fun w' => w'.cell? ⟨b, off + 2, none⟩ = some (.int .i64 k) ∧ w'.cell? ⟨b, off + 3, none⟩ = some (.int .i64 p0)) (by kernel_rfl) ⟨e2, e3⟩ (fun hHeld => ?_)
                refine wpAnyH_take (i := 0) (oi := ({ dst := some 50, op := Op.move (Operand.tmp 0), type := 33, pos := "ref.go:140", after := #[], guard := none } : Oper)) (v := ?_) rfl (by kernel_rfl) (by kernel_rfl) (by kernel_rfl) (fun _ _ _ h => h) (Or.inl ⟨by rfl, ?_⟩) (by assumption) ?_
                rotate_left
                · (intro w hSw; (try dsimp only at hSw); go_simp; try with_reducible rfl)
                try simp only [Act.put, List.setIfInBounds_toArray, List.set_cons_zero, List.set_cons_succ]
                refine wpAnyH_take (i := 1) (oi := ({ dst := some 51, op := Op.indexAddr 33 (Operand.tmp 50) (Operand.const (Value.int IntKind.i64 0)), type := 0, pos := "ref.go:140", after := #[{ on := 0, ground := Ground.data }], guard := none } : Oper)) (v := ?_) rfl (by kernel_rfl) (by kernel_rfl) (by kernel_rfl) (fun _ _ _ h => h) (Or.inl ⟨by rfl, ?_⟩) (by assumption) ?_
                rotate_left
                · (intro w hSw; (try dsimp only at hSw); go_simp; try with_reducible rfl)
                try simp only [Act.put, List.setIfInBounds_toArray, List.set_cons_zero, List.set_cons_succ]
                refine wpAnyH_take (i := 2) (oi := ({ dst := some 52, op := Op.fieldAddr 42 (Operand.tmp 51) 1, type := 0, pos := "ref.go:140", after := #[{ on := 1, ground := Ground.data }], guard := none } : Oper)) (v := ?_) rfl (by kernel_rfl) (by kernel_rfl) (by kernel_rfl) (fun _ _ _ h => h) (Or.inl ⟨by rfl, ?_⟩) (by assumption) ?_
                rotate_left
                · (intro w hSw; (try dsimp only at hSw); go_simp; try with_reducible rfl)
                try simp only [Act.put, List.setIfInBounds_toArray, List.set_cons_zero, List.set_cons_succ]
                refine wpAnyH_take (i := 3) (oi := ({ dst := some 53, op := Op.fieldAddr 40 (Operand.tmp 52) 1, type := 0, pos := "ref.go:140", after := #[{ on := 2, ground := Ground.data }], guard := none } : Oper)) (v := ?_) rfl (by kernel_rfl) (by kernel_rfl) (by kernel_rfl) (fun _ _ _ h => h) (Or.inl ⟨by rfl, ?_⟩) (by assumption) ?_
                rotate_left
                · (intro w hSw; (try dsimp only at hSw); go_simp; try with_reducible rfl)
                try simp only [Act.put, List.setIfInBounds_toArray, List.set_cons_zero, List.set_cons_succ]
                refine wpAnyH_take (i := 4) (oi := ({ dst := some 54, op := Op.load 3 (Operand.tmp 53), type := 3, pos := "ref.go:140", after := #[{ on := 3, ground := Ground.data }], guard := none } : Oper)) (v := ?_) rfl (by kernel_rfl) (by kernel_rfl) (by kernel_rfl) (fun _ _ _ h => h) (Or.inl ⟨by rfl, ?_⟩) (by assumption) ?_
                rotate_left
                · (intro w hSw; (try dsimp only at hSw); go_simp; try with_reducible rfl)
                try simp only [Act.put, List.setIfInBounds_toArray, List.set_cons_zero, List.set_cons_succ]
                refine wpAnyH_take (i := 5) (oi := ({ dst := some 55, op := Op.binOp BinOp.gtr 3 (Operand.tmp 54) (Operand.const (Value.int IntKind.i64 0)) 3, type := 4, pos := "ref.go:140", after := #[{ on := 4, ground := Ground.data }], guard := none } : Oper)) (v := ?_) rfl (by kernel_rfl) (by kernel_rfl) (by kernel_rfl) (fun _ _ _ h => h) (Or.inl ⟨by rfl, ?_⟩) (by assumption) ?_
                rotate_left
                · (intro w hSw; (try dsimp only at hSw); go_simp; try with_reducible rfl)
                try simp only [Act.put, List.setIfInBounds_toArray, List.set_cons_zero, List.set_cons_succ]
                refine wpAnyH_take (i := 6) (oi := ({ dst := some 56, op := Op.move (Operand.tmp 55), type := 4, pos := "ref.go:140", after := #[{ on := 5, ground := Ground.data }], guard := none } : Oper)) (v := ?_) rfl (by kernel_rfl) (by kernel_rfl) (by kernel_rfl) (fun _ _ _ h => h) (Or.inl ⟨by rfl, ?_⟩) (by assumption) ?_
                rotate_left
                · (intro w hSw; (try dsimp only at hSw); go_simp; try with_reducible rfl)
                try simp only [Act.put, List.setIfInBounds_toArray, List.set_cons_zero, List.set_cons_succ]
                refine wpAnyH_take (i := 7) (oi := ({ dst := some 57, op := Op.move (Operand.tmp 6), type := 9, pos := "ref.go:140", after := #[{ on := 6, ground := Ground.guard }], guard := some (6, true) } : Oper)) (v := ?_) rfl (by kernel_rfl) (by kernel_rfl) (by kernel_rfl) (fun _ _ _ h => h) (Or.inl ⟨by rfl, ?_⟩) (by assumption) ?_
                rotate_left
                · (intro w hSw; (try dsimp only at hSw); go_simp; try with_reducible rfl)
                try simp only [Act.put, List.setIfInBounds_toArray, List.set_cons_zero, List.set_cons_succ]
                refine wpAnyH_take (i := 10) (oi := ({ dst := some 60, op := Op.move (Operand.tmp 0), type := 33, pos := "ref.go:140", after := #[{ on := 6, ground := Ground.guard }], guard := some (6, true) } : Oper)) (v := ?_) rfl (by kernel_rfl) (by kernel_rfl) (by kernel_rfl) (fun _ _ _ h => h) (Or.inl ⟨by rfl, ?_⟩) (by assumption) ?_
                rotate_left
                · (intro w hSw; (try dsimp only at hSw); go_simp; try with_reducible rfl)
                try simp only [Act.put, List.setIfInBounds_toArray, List.set_cons_zero, List.set_cons_succ]
                refine wpAnyH_take (i := 11) (oi := ({ dst := some 61, op := Op.indexAddr 33 (Operand.tmp 60) (Operand.const (Value.int IntKind.i64 0)), type := 0, pos := "ref.go:140", after := #[{ on := 10, ground := Ground.data }, { on := 6, ground := Ground.guard }], guard := some (6, true) } : Oper)) (v := ?_) rfl (by kernel_rfl) (by kernel_rfl) (by kernel_rfl) (fun _ _ _ h => h) (Or.inl ⟨by rfl, ?_⟩) (by assumption) ?_
                rotate_left
                · (intro w hSw; (try dsimp only at hSw); go_simp; try with_reducible rfl)
                try simp only [Act.put, List.setIfInBounds_toArray, List.set_cons_zero, List.set_cons_succ]
                refine wpAnyH_take (i := 12) (oi := ({ dst := some 62, op := Op.fieldAddr 42 (Operand.tmp 61) 1, type := 0, pos := "ref.go:140", after := #[{ on := 11, ground := Ground.data }, { on := 6, ground := Ground.guard }], guard := some (6, true) } : Oper)) (v := ?_) rfl (by kernel_rfl) (by kernel_rfl) (by kernel_rfl) (fun _ _ _ h => h) (Or.inl ⟨by rfl, ?_⟩) (by assumption) ?_
                rotate_left
                · (intro w hSw; (try dsimp only at hSw); go_simp; try with_reducible rfl)
                try simp only [Act.put, List.setIfInBounds_toArray, List.set_cons_zero, List.set_cons_succ]
                refine wpAnyH_take (i := 13) (oi := ({ dst := some 63, op := Op.fieldAddr 40 (Operand.tmp 62) 2, type := 0, pos := "ref.go:140", after := #[{ on := 12, ground := Ground.data }, { on := 6, ground := Ground.guard }], guard := some (6, true) } : Oper)) (v := ?_) rfl (by kernel_rfl) (by kernel_rfl) (by kernel_rfl) (fun _ _ _ h => h) (Or.inl ⟨by rfl, ?_⟩) (by assumption) ?_
                rotate_left
                · (intro w hSw; (try dsimp only at hSw); go_simp; try with_reducible rfl)
                try simp only [Act.put, List.setIfInBounds_toArray, List.set_cons_zero, List.set_cons_succ]
                refine wpAnyH_take (i := 14) (oi := ({ dst := some 64, op := Op.load 3 (Operand.tmp 63), type := 3, pos := "ref.go:140", after := #[{ on := 13, ground := Ground.data }, { on := 6, ground := Ground.guard }], guard := some (6, true) } : Oper)) (v := ?_) rfl (by kernel_rfl) (by kernel_rfl) (by kernel_rfl) (fun _ _ _ h => h) (Or.inl ⟨by rfl, ?_⟩) (by assumption) ?_
                rotate_left
                · (intro w hSw; (try dsimp only at hSw); go_simp; try with_reducible rfl)
                try simp only [Act.put, List.setIfInBounds_toArray, List.set_cons_zero, List.set_cons_succ]
                refine wpAnyH_ready (rs := [8]) (by kernel_rfl) (by simp) ?_
                refine AllReadyH.cons (o := ({ dst := some 58, op := Op.convert 9 22 (Operand.tmp 57), type := 22, pos := "ref.go:140", after := #[{ on := 7, ground := Ground.data }, { on := 6, ground := Ground.guard }], guard := some (6, true) } : Oper)) rfl (fun K hK => ?_) AllReadyH.nil
                go_simp
                refine hK.out _ _ ⟨k2, k3⟩ (fun hHeld2 => ?_)
                clear hK K
                try simp only [Act.put, List.setIfInBounds_toArray, List.set_cons_zero, List.set_cons_succ]
                refine wpAnyH_ready (rs := [9]) (by kernel_rfl) (by simp) ?_
                refine AllReadyH.cons (o := ({ dst := some 59, op := Op.call { callee := Callee.value (Operand.func 9), args := #[Operand.tmp 58], argTypes := #[22] }, type := 3, pos := "ref.go:140", after := #[{ on := 8, ground := Ground.data }, { on := 6, ground := Ground.chain }, { on := 6, ground := Ground.guard }], guard := some (6, true) } : Oper)) rfl (fun K hK => ?_) AllReadyH.nil
                go_simp
                refine HPA.out.mono ?_
                rintro re w5 ⟨rfl, rfl⟩
                go_wp2_with fail
                refine hK.out _ _ ⟨k2, k3⟩ (fun hHeld3 => ?_)
                clear hK K
                try simp only [Act.put, List.setIfInBounds_toArray, List.set_cons_zero, List.set_cons_succ]
                refine wpAnyH_take (i := 15) (oi := ({ dst := some 65, op := Op.binOp BinOp.neq 3 (Operand.tmp 59) (Operand.tmp 64) 3, type := 4, pos := "ref.go:140", after := #[{ on := 9, ground := Ground.data }, { on := 14, ground := Ground.data }, { on := 6, ground := Ground.guard }], guard := some (6, true) } : Oper)) (v := ?_) rfl (by kernel_rfl) (by kernel_rfl) (by kernel_rfl) (fun _ _ _ h => h) (Or.inl ⟨by rfl, ?_⟩) (by assumption) ?_
                rotate_left
                · (intro w hSw; (try dsimp only at hSw); go_simp; try with_reducible rfl)
                try simp only [Act.put, List.setIfInBounds_toArray, List.set_cons_zero, List.set_cons_succ]
                refine wpAnyH_take (i := 16) (oi := ({ dst := some 66, op := Op.pick (Operand.tmp 56) (Operand.tmp 65) (Operand.const (Value.bool false)), type := 4, pos := "ref.go:140", after := #[{ on := 6, ground := Ground.data }, { on := 15, ground := Ground.data }], guard := none } : Oper)) (v := ?_) rfl (by kernel_rfl) (by kernel_rfl) (by kernel_rfl) (fun _ _ _ h => h) (Or.inl ⟨by rfl, ?_⟩) (by assumption) ?_
                rotate_left
                · (intro w hSw; (try dsimp only at hSw); go_simp; try with_reducible rfl)
                try simp only [Act.put, List.setIfInBounds_toArray, List.set_cons_zero, List.set_cons_succ]
                refine wpAnyH_done (by kernel_rfl) ?_ _
                go_wp2_with fail
                go_ret2
                rw [HJd.out]
                exact ⟨none, 0, rfl, ⟨rfl, by simp, fun k hk => by simp at hk⟩, HBB.out⟩
  · have hmf : missF ms = ((collF ms).1, []) := by
      unfold missF; rw [if_pos herr]
    have hjf : joinF ms = ((collF ms).1, []) := by
      unfold joinF; rw [if_pos herr]
    rw [hmf] at HC
    have HJ := Lib.hid hjf
    generalize (collF ms).1 = err at *
    simp only at HC
    have herr' : (err == 0) = false := by simp [herr]
    clear hmf hjf HD HTS
    go_enter Try.func16, Try.ntmps16
    go_wp2_with fail
    refine HC.out.mono ?_
    rintro e w2 hret
    obtain ⟨a2, cap2, rfl, _, hBw⟩ := hret.open
    clear hret
    go_wp2_with fail
    go_ret2
    rw [HJ.out]
    exact ⟨none, 0, rfl, ⟨rfl, by simp, fun k hk => by simp at hk⟩, hBw⟩

end Go.Proofs.Ytifgpjhodajccaa
