/-
  No cell of these rows narrows 'for every input' (looked for: loops, veiled, ifaces, maps, wideKeys, modest, calm, conditions, laid).
  DERIVED. THE GIVEN ROWS OF THIS SEAT. 5 by the template 'for every input the law returns true; each argument reads behind the call as it read before'; 0 by the template 'total and deterministic' (their statements: YtifgpjhodajccaaTotals.lean).
  GIVEN WITH THE SEED: the statements are not yours to turn. If you find one false, say at which input.
  Laid BY PROGRAM, IN A SANDBOX (cutbox-rows.mjs): the forced cells as the released guide's own fill.sh prints them over the translation d45e249c49991e26… (all of the seat's roots in one cut). By AI agents, Wed Nov 11 2026. No macro, syntax, notation, axiom, sorry.
-/
import Derived.Test.YtifgpjhodajccaaChecked
import GoSem.Claim
import GoSem.ClaimJoined
import GoSem.ClaimMapViews
import Derived.JoinedTies
import Derived.KernelRfl
namespace Go.Proofs.Ytifgpjhodajccaa
/- THE CELL 'sum', in the pinned program and in every row, IS THE sha256 OF THE DUMP (.gsa) THAT YtifgpjhodajccaaProg.lean LOADS. Nothing in Lean hashes anything: it is a label: what it is worth is what the hold of that sum in a sandbox is worth. -/
noncomputable def Try.pinned : Pinned := { name := "ytifgpjhodajccaa", sum := "d45e249c49991e266c0a98860e0ef08bf65425edb4f4c24860ca50a1dff896d1", checked := Try.checked }
namespace Rows
def none {H : Type} : Left H := { results := [], args := [] }

/-- 'barscanlaw23.SplitParities': WHATEVER THE INPUT: true; the input reads as it did. -/
def splitParitiesSpec : ChangeSpec := { name := "splitParities", fn := fun _ => fun
  | [d] => { results := [.lit (.bool true)], args := [d] }
  | _ => none }
def splitParitiesRow : OpenClaim := { program := "ytifgpjhodajccaa", sum := "d45e249c49991e266c0a98860e0ef08bf65425edb4f4c24860ca50a1dff896d1", func := "barscan/barscanlaw23.SplitParities", spec := "splitParities", inPlace := ["internal/bytealg.IndexByteString"], unfollowed := true, recurses := true, apart := false }
def SplitParitiesSaid : Prop := splitParitiesRow.holds Try.pinned (OpenSpec.ofChange splitParitiesSpec)

/-- ITS FALSE NEIGHBOUR: 'it returns false'. Refute it at one input. -/
def splitParitiesWrong : ChangeSpec := { name := "splitParities", fn := fun _ => fun
  | [d] => { results := [.lit (.bool false)], args := [d] }
  | _ => none }
def SplitParitiesWrongFalsely : Prop := splitParitiesRow.holds Try.pinned (OpenSpec.ofChange splitParitiesWrong)

/-- 'barscanlaw23.SplitCuts': WHATEVER THE INPUT: true; the input reads as it did. -/
def splitCutsSpec : ChangeSpec := { name := "splitCuts", fn := fun _ => fun
  | [d1, d2, d3] => { results := [.lit (.bool true)], args := [d1, d2, d3] }
  | _ => none }
def splitCutsRow : OpenClaim := { program := "ytifgpjhodajccaa", sum := "d45e249c49991e266c0a98860e0ef08bf65425edb4f4c24860ca50a1dff896d1", func := "barscan/barscanlaw23.SplitCuts", spec := "splitCuts", inPlace := ["internal/bytealg.IndexByteString"], unfollowed := true, recurses := true, apart := false }
def SplitCutsSaid : Prop := splitCutsRow.holds Try.pinned (OpenSpec.ofChange splitCutsSpec)

/-- ITS FALSE NEIGHBOUR: 'it returns false'. Refute it at one input. -/
def splitCutsWrong : ChangeSpec := { name := "splitCuts", fn := fun _ => fun
  | [d1, d2, d3] => { results := [.lit (.bool false)], args := [d1, d2, d3] }
  | _ => none }
def SplitCutsWrongFalsely : Prop := splitCutsRow.holds Try.pinned (OpenSpec.ofChange splitCutsWrong)

/-- 'barscanlaw23.SplitJoins': WHATEVER THE INPUT: true; the input reads as it did. -/
def splitJoinsSpec : ChangeSpec := { name := "splitJoins", fn := fun _ => fun
  | [d] => { results := [.lit (.bool true)], args := [d] }
  | _ => none }
def splitJoinsRow : OpenClaim := { program := "ytifgpjhodajccaa", sum := "d45e249c49991e266c0a98860e0ef08bf65425edb4f4c24860ca50a1dff896d1", func := "barscan/barscanlaw23.SplitJoins", spec := "splitJoins", inPlace := ["internal/bytealg.IndexByteString"], unfollowed := true, recurses := true, apart := false }
def SplitJoinsSaid : Prop := splitJoinsRow.holds Try.pinned (OpenSpec.ofChange splitJoinsSpec)

/-- ITS FALSE NEIGHBOUR: 'it returns false'. Refute it at one input. -/
def splitJoinsWrong : ChangeSpec := { name := "splitJoins", fn := fun _ => fun
  | [d] => { results := [.lit (.bool false)], args := [d] }
  | _ => none }
def SplitJoinsWrongFalsely : Prop := splitJoinsRow.holds Try.pinned (OpenSpec.ofChange splitJoinsWrong)

/-- 'barscanlaw23.SplitOrder': WHATEVER THE INPUT: true; the input reads as it did. -/
def splitOrderSpec : ChangeSpec := { name := "splitOrder", fn := fun _ => fun
  | [d1, d2] => { results := [.lit (.bool true)], args := [d1, d2] }
  | _ => none }
def splitOrderRow : OpenClaim := { program := "ytifgpjhodajccaa", sum := "d45e249c49991e266c0a98860e0ef08bf65425edb4f4c24860ca50a1dff896d1", func := "barscan/barscanlaw23.SplitOrder", spec := "splitOrder", inPlace := ["internal/bytealg.IndexByteString"], unfollowed := true, recurses := true, apart := false }
def SplitOrderSaid : Prop := splitOrderRow.holds Try.pinned (OpenSpec.ofChange splitOrderSpec)

/-- ITS FALSE NEIGHBOUR: 'it returns false'. Refute it at one input. -/
def splitOrderWrong : ChangeSpec := { name := "splitOrder", fn := fun _ => fun
  | [d1, d2] => { results := [.lit (.bool false)], args := [d1, d2] }
  | _ => none }
def SplitOrderWrongFalsely : Prop := splitOrderRow.holds Try.pinned (OpenSpec.ofChange splitOrderWrong)

/-- 'barscanlaw23.SplitMinimal': WHATEVER THE INPUT: true; the input reads as it did. -/
def splitMinimalSpec : ChangeSpec := { name := "splitMinimal", fn := fun _ => fun
  | [d1, d2, d3, d4] => { results := [.lit (.bool true)], args := [d1, d2, d3, d4] }
  | _ => none }
def splitMinimalRow : OpenClaim := { program := "ytifgpjhodajccaa", sum := "d45e249c49991e266c0a98860e0ef08bf65425edb4f4c24860ca50a1dff896d1", func := "barscan/barscanlaw23.SplitMinimal", spec := "splitMinimal", inPlace := ["internal/bytealg.IndexByteString"], unfollowed := true, recurses := true, apart := false }
def SplitMinimalSaid : Prop := splitMinimalRow.holds Try.pinned (OpenSpec.ofChange splitMinimalSpec)

/-- ITS FALSE NEIGHBOUR: 'it returns false'. Refute it at one input. -/
def splitMinimalWrong : ChangeSpec := { name := "splitMinimal", fn := fun _ => fun
  | [d1, d2, d3, d4] => { results := [.lit (.bool false)], args := [d1, d2, d3, d4] }
  | _ => none }
def SplitMinimalWrongFalsely : Prop := splitMinimalRow.holds Try.pinned (OpenSpec.ofChange splitMinimalWrong)

/- THE SECOND FORM. 'bulk': how many values and letters a reading holds, each counted each time it is reached (what is shared counts as often as it is met; a slice's spare places count too). A statement '..UptoSaid' is the law's where the arguments, and the package variables that the reading takes, are together of bulk at most 1048576: NARROWER than '..Said'. Prove '..Said' where nothing that the law and all that it calls make is longer than what came in: it says more and counts as full. Else prove '..UptoSaid'. A law counts once. -/
mutual
def uptoBulk {H : Type} : DataW H → Nat
  | .lit (.string bytes) => bytes.length + 1
  | .lit _ => 1
  | .nil => 1
  | .ptr d => uptoBulk d + 1
  | .slice elems spare => uptoBulkAll elems + uptoBulkAll spare + 1
  | .agg parts => uptoBulkAll parts + 1
  | .iface _ d => uptoBulk d + 1
  | .map entries => uptoBulkEntries entries + 1
  | .held _ => 1
def uptoBulkAll {H : Type} : List (DataW H) → Nat
  | [] => 0
  | d :: r => uptoBulk d + uptoBulkAll r
def uptoBulkEntries {H : Type} : List (Lit × DataW H) → Nat
  | [] => 0
  | x :: r => uptoBulkEntry x + uptoBulkEntries r
def uptoBulkEntry {H : Type} : Lit × DataW H → Nat
  | (.string bytes, d) => bytes.length + uptoBulk d + 1
  | (_, d) => uptoBulk d + 1
 end
def uptoSmall : (H : Type) → List (DataW H) → Bool := fun _ ds => decide (uptoBulkAll ds ≤ 1048576)
def OpenSpec.upto (s : _root_.Go.ChangeSpec) : _root_.Go.OpenSpec := { _root_.Go.OpenSpec.ofChange s with cond := some uptoSmall }

/-- 'barscanlaw23.SplitParities', WHERE WHAT IT READS IS OF BULK AT MOST 1048576: true; the input reads as it did. -/
def splitParitiesUptoRow : OpenClaim := { program := "ytifgpjhodajccaa", sum := "d45e249c49991e266c0a98860e0ef08bf65425edb4f4c24860ca50a1dff896d1", func := "barscan/barscanlaw23.SplitParities", spec := "splitParities", inPlace := ["internal/bytealg.IndexByteString"], unfollowed := true, recurses := true, apart := false, narrowed := true }
def SplitParitiesUptoSaid : Prop := splitParitiesUptoRow.holds Try.pinned (OpenSpec.upto splitParitiesSpec)

/-- 'barscanlaw23.SplitCuts', WHERE WHAT IT READS IS OF BULK AT MOST 1048576: true; the input reads as it did. -/
def splitCutsUptoRow : OpenClaim := { program := "ytifgpjhodajccaa", sum := "d45e249c49991e266c0a98860e0ef08bf65425edb4f4c24860ca50a1dff896d1", func := "barscan/barscanlaw23.SplitCuts", spec := "splitCuts", inPlace := ["internal/bytealg.IndexByteString"], unfollowed := true, recurses := true, apart := false, narrowed := true }
def SplitCutsUptoSaid : Prop := splitCutsUptoRow.holds Try.pinned (OpenSpec.upto splitCutsSpec)

/-- 'barscanlaw23.SplitJoins', WHERE WHAT IT READS IS OF BULK AT MOST 1048576: true; the input reads as it did. -/
def splitJoinsUptoRow : OpenClaim := { program := "ytifgpjhodajccaa", sum := "d45e249c49991e266c0a98860e0ef08bf65425edb4f4c24860ca50a1dff896d1", func := "barscan/barscanlaw23.SplitJoins", spec := "splitJoins", inPlace := ["internal/bytealg.IndexByteString"], unfollowed := true, recurses := true, apart := false, narrowed := true }
def SplitJoinsUptoSaid : Prop := splitJoinsUptoRow.holds Try.pinned (OpenSpec.upto splitJoinsSpec)

/-- 'barscanlaw23.SplitOrder', WHERE WHAT IT READS IS OF BULK AT MOST 1048576: true; the input reads as it did. -/
def splitOrderUptoRow : OpenClaim := { program := "ytifgpjhodajccaa", sum := "d45e249c49991e266c0a98860e0ef08bf65425edb4f4c24860ca50a1dff896d1", func := "barscan/barscanlaw23.SplitOrder", spec := "splitOrder", inPlace := ["internal/bytealg.IndexByteString"], unfollowed := true, recurses := true, apart := false, narrowed := true }
def SplitOrderUptoSaid : Prop := splitOrderUptoRow.holds Try.pinned (OpenSpec.upto splitOrderSpec)

/-- 'barscanlaw23.SplitMinimal', WHERE WHAT IT READS IS OF BULK AT MOST 1048576: true; the input reads as it did. -/
def splitMinimalUptoRow : OpenClaim := { program := "ytifgpjhodajccaa", sum := "d45e249c49991e266c0a98860e0ef08bf65425edb4f4c24860ca50a1dff896d1", func := "barscan/barscanlaw23.SplitMinimal", spec := "splitMinimal", inPlace := ["internal/bytealg.IndexByteString"], unfollowed := true, recurses := true, apart := false, narrowed := true }
def SplitMinimalUptoSaid : Prop := splitMinimalUptoRow.holds Try.pinned (OpenSpec.upto splitMinimalSpec)

end Rows
end Go.Proofs.Ytifgpjhodajccaa
