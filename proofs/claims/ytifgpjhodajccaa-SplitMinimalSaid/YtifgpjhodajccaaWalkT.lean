/-
  The walk of the law's message. No condition.
-/
import Derived.Test.YtifgpjhodajccaaWalkR
import Derived.Test.YtifgpjhodajccaaStr
namespace Go.Proofs.Ytifgpjhodajccaa
open Go.RowKit

theorem Rd.keep {w w' : World} {a : Option Addr} {n : Nat} {xs : List Value} (h : Rd w a n xs) (hk : ∀ b off, a = some ⟨b, off, none⟩ → w'.heap[b]? = w.heap[b]?) : Rd w' a n xs :=
  ⟨h.len, h.le, fun k hk' => let ⟨b, off, e, hc⟩ := h.cell k hk'; ⟨b, off, e, (World.cell?_of_block (w := w) (hk b off e)).trans hc⟩⟩

theorem res20 (tmps : Array Value) (w : World) (g : Nat) (s i t p : Value) (h8 : tmps.getD 8 undef = .pointer (some ⟨g, 0, none⟩)) (hg : w.heap[g]? = some (.cells #[s, i, t, p] 42 (0, 0))) :
    (results Try.f20 tmps).run Try.prog w = .ok (.agg #[s, i, t, p]) w := by
  have hl := run_loadVar_row (P := Try.prog) w g 42 42 #[s, i, t, p] (0, 0) _ hg Try.underlying42 rfl (by kernel_rfl)
  have h8' : tmps[8]?.getD undef = .pointer (some ⟨g, 0, none⟩) := by simpa using h8
  simp [results, Try.results20, h8', asAddr, hl]

theorem hi42 (s i t p : Value) : (Try.prog.info? 42).map (·.size) = some (#[s, i, t, p]).size := by kernel_rfl

/-- A message is laid into a block of a message. -/
theorem wpList_msg {ops : Array Oper} {rest : List Oper} {o : Oper} {a : Act} {w : World} {Q : Exit → Act → World → Prop} (hgd : o.guard = none) (x y : Operand) (ho : o.op = .store 42 x y)
    (g : Nat) (sa : Option Addr) (sn sc : Nat) (i t p : Int) (cs : Array Value) (hcs : cs.size = 4) (hx : a.eval x = .pointer (some ⟨g, 0, none⟩)) (hy : a.eval y = .agg #[.slice sa sn sc, .int .i64 i, .int .i64 t, .int .i64 p]) (hg : w.heap[g]? = some (.cells cs 42 (0, 0)))
    (h : wpList Try.prog ops Q rest (a.put o.dst undef) (w.setRow g #[.slice sa sn sc, .int .i64 i, .int .i64 t, .int .i64 p])) : wpList Try.prog ops Q (o :: rest) a w :=
  wpList_store_row hgd 42 x y ho g _ hx hy 42 _ hg (hi42 _ _ _ _) (by rw [hcs]; rfl) (by simp [Value.oneCell']) h

set_option maxRecDepth 100000 in
set_option maxHeartbeats 4000000 in
theorem message_any (xs : List Int) (i t p : Int) (w : World) (hx : ∀ c ∈ xs, 0 ≤ c ∧ c < 256) (hl : xs.length ≤ 1000) :
    Calls Try.prog 20 #[.string (strOfNums xs), .int .i64 i, .int .i64 t, .int .i64 p] w fun e w' => ∃ sa, e = .returned (.agg #[.slice sa 1 1, .int .i64 i, .int .i64 t, .int .i64 p]) ∧ RdS w' sa 1 [(4, xs)] ∧ Below w.heap.size w w' := by
  have hb0 : Below w.heap.size w (w.alloc (.cells #[.slice none 0 0, .int .i64 0, .int .i64 0, .int .i64 0] 42)) := (Below.refl _ _).alloc (Nat.le_refl _) _
  have hblk := World.alloc_heap_new w (.cells #[.slice none 0 0, .int .i64 0, .int .i64 0, .int .i64 0] 42)
  obtain ⟨W, c, hcv, hrd, hb, hs, hc1, hc2⟩ := conv_str (w.alloc (.cells #[.slice none 0 0, .int .i64 0, .int .i64 0, .int .i64 0] 42)) xs hx (by omega)
  have hblkW := (hb.block _ (by simp)).trans hblk
  have hs0 : (w.alloc (.cells #[.slice none 0 0, .int .i64 0, .int .i64 0, .int .i64 0] 42)).heap.size = w.heap.size + 1 := by simp
  rw [hs0] at hs hrd
  have HRD := Lib.hid hrd
  clear hrd
  go_enter Try.func20, Try.ntmps20
  have hblk2 := fun o : Obj => (Below.heap_alloc W o w.heap.size (by omega)).trans hblkW
  go_wp2_with (refine wpList_msg rfl (.tmp 8) (.tmp 17) rfl w.heap.size _ _ _ _ _ _ _ rfl rfl rfl (hblk2 _) ?_)
  have hl2 : w.heap.size < (W.alloc (.cells #[.int .i64 4, .slice (some ⟨w.heap.size + 1, 0, none⟩) xs.length c] 52)).heap.size := by simp; omega
  refine bodyPost_ret (res20 _ _ w.heap.size (.slice (some ⟨w.heap.size + 1 + 1, 0, none⟩) 1 1) (.int .i64 i) (.int .i64 t) (.int .i64 p) rfl (setRow_heap _ _ _ _ _ _ (hblk2 _))) rfl ?_
  have hnew := World.alloc_heap_new W (.cells #[.int .i64 4, .slice (some ⟨w.heap.size + 1, 0, none⟩) xs.length c] 52)
  rw [hs] at hnew
  have hnew2 := (setRow_other (W.alloc (.cells #[.int .i64 4, .slice (some ⟨w.heap.size + 1, 0, none⟩) xs.length c] 52)) w.heap.size (w.heap.size + 1 + 1) #[.slice (some ⟨w.heap.size + 1 + 1, 0, none⟩) 1 1, .int .i64 i, .int .i64 t, .int .i64 p] (by omega)).trans hnew
  refine ⟨_, rfl, ⟨rfl, by omega, fun k hk => ⟨_, _, rfl, fun s hs' => ?_⟩⟩, ?_⟩
  · obtain rfl : k = 0 := by omega
    simp at hs'
    subst hs'
    refine ⟨cell_of_blk (j := 0) hnew2 _ rfl, _, _, cell_of_blk (j := 1) hnew2 _ rfl, ?_, hc1, hc2, fun h => by cases h⟩
    refine HRD.out.keep fun b off e => ?_
    cases e
    rw [setRow_other _ _ _ _ (by omega)]
    exact Below.heap_alloc _ _ _ (by omega)
  · exact below_setRow ((below_tr hb0 hb0.size hb).alloc (by omega) _) (Nat.le_refl _) _

end Go.Proofs.Ytifgpjhodajccaa
