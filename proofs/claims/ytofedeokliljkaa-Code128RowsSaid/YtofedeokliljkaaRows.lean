/-
  No cell of these rows narrows 'for every input' (looked for: loops, veiled, ifaces, maps, wideKeys, modest, calm, conditions, laid).
  DERIVED. THE GIVEN ROWS OF THIS SEAT. 7 by the template 'for every input the law returns true; each argument reads behind the call as it read before'; 0 by the template 'total and deterministic' (their statements: YtofedeokliljkaaTotals.lean).
  GIVEN WITH THE SEED: the statements are not yours to turn. If you find one false, say at which input.
  Laid BY PROGRAM, IN A SANDBOX (cutbox-rows.mjs): the forced cells as the released guide's own fill.sh prints them over the translation c0d0011c9ce504e2… (all of the seat's roots in one cut). By AI agents, Wed Nov 11 2026. No macro, syntax, notation, axiom, sorry.
-/
import Derived.Test.YtofedeokliljkaaChecked
import GoSem.Claim
import GoSem.ClaimJoined
import GoSem.ClaimMapViews
import Derived.JoinedTies
import Derived.KernelRfl
namespace Go.Proofs.Ytofedeokliljkaa
/- THE CELL 'sum', in the pinned program and in every row, IS THE sha256 OF THE DUMP (.gsa) THAT YtofedeokliljkaaProg.lean LOADS. Nothing in Lean hashes anything: it is a label: what it is worth is what the hold of that sum in a sandbox is worth. -/
noncomputable def Try.pinned : Pinned := { name := "ytofedeokliljkaa", sum := "c0d0011c9ce504e2aad217cbb8fb045a3b899113023e3a3981f349b3d50d5dce", checked := Try.checked }
namespace Rows
def none {H : Type} : Left H := { results := [], args := [] }

/-- 'barscanlaw13.Code128Chars': WHATEVER THE INPUT: true; the input reads as it did. -/
def code128CharsSpec : ChangeSpec := { name := "code128Chars", fn := fun _ => fun
  | [d] => { results := [.lit (.bool true)], args := [d] }
  | _ => none }
def code128CharsRow : OpenClaim := { program := "ytofedeokliljkaa", sum := "c0d0011c9ce504e2aad217cbb8fb045a3b899113023e3a3981f349b3d50d5dce", func := "barscan/barscanlaw13.Code128Chars", spec := "code128Chars", unfollowed := true, recurses := true, plainKeys := false, apart := false }
def Code128CharsSaid : Prop := code128CharsRow.holds Try.pinned (OpenSpec.ofChange code128CharsSpec)

/-- ITS FALSE NEIGHBOUR: 'it returns false'. Refute it at one input. -/
def code128CharsWrong : ChangeSpec := { name := "code128Chars", fn := fun _ => fun
  | [d] => { results := [.lit (.bool false)], args := [d] }
  | _ => none }
def Code128CharsWrongFalsely : Prop := code128CharsRow.holds Try.pinned (OpenSpec.ofChange code128CharsWrong)

/-- 'barscanlaw13.Code128Rows': WHATEVER THE INPUT: true; the input reads as it did. -/
def code128RowsSpec : ChangeSpec := { name := "code128Rows", fn := fun _ => fun
  | [d1, d2] => { results := [.lit (.bool true)], args := [d1, d2] }
  | _ => none }
def code128RowsRow : OpenClaim := { program := "ytofedeokliljkaa", sum := "c0d0011c9ce504e2aad217cbb8fb045a3b899113023e3a3981f349b3d50d5dce", func := "barscan/barscanlaw13.Code128Rows", spec := "code128Rows", unfollowed := true, recurses := true, plainKeys := false, apart := false }
def Code128RowsSaid : Prop := code128RowsRow.holds Try.pinned (OpenSpec.ofChange code128RowsSpec)

/-- ITS FALSE NEIGHBOUR: 'it returns false'. Refute it at one input. -/
def code128RowsWrong : ChangeSpec := { name := "code128Rows", fn := fun _ => fun
  | [d1, d2] => { results := [.lit (.bool false)], args := [d1, d2] }
  | _ => none }
def Code128RowsWrongFalsely : Prop := code128RowsRow.holds Try.pinned (OpenSpec.ofChange code128RowsWrong)

/-- 'barscanlaw13.Code128Decodes': WHATEVER THE INPUT: true; the input reads as it did. -/
def code128DecodesSpec : ChangeSpec := { name := "code128Decodes", fn := fun _ => fun
  | [d] => { results := [.lit (.bool true)], args := [d] }
  | _ => none }
def code128DecodesRow : OpenClaim := { program := "ytofedeokliljkaa", sum := "c0d0011c9ce504e2aad217cbb8fb045a3b899113023e3a3981f349b3d50d5dce", func := "barscan/barscanlaw13.Code128Decodes", spec := "code128Decodes", unfollowed := true, recurses := true, plainKeys := false, apart := false }
def Code128DecodesSaid : Prop := code128DecodesRow.holds Try.pinned (OpenSpec.ofChange code128DecodesSpec)

/-- ITS FALSE NEIGHBOUR: 'it returns false'. Refute it at one input. -/
def code128DecodesWrong : ChangeSpec := { name := "code128Decodes", fn := fun _ => fun
  | [d] => { results := [.lit (.bool false)], args := [d] }
  | _ => none }
def Code128DecodesWrongFalsely : Prop := code128DecodesRow.holds Try.pinned (OpenSpec.ofChange code128DecodesWrong)

/-- 'barscanlaw13.Code128Returns': WHATEVER THE INPUT: true; the input reads as it did. -/
def code128ReturnsSpec : ChangeSpec := { name := "code128Returns", fn := fun _ => fun
  | [d] => { results := [.lit (.bool true)], args := [d] }
  | _ => none }
def code128ReturnsRow : OpenClaim := { program := "ytofedeokliljkaa", sum := "c0d0011c9ce504e2aad217cbb8fb045a3b899113023e3a3981f349b3d50d5dce", func := "barscan/barscanlaw13.Code128Returns", spec := "code128Returns", unfollowed := true, recurses := true, plainKeys := false, apart := false }
def Code128ReturnsSaid : Prop := code128ReturnsRow.holds Try.pinned (OpenSpec.ofChange code128ReturnsSpec)

/-- ITS FALSE NEIGHBOUR: 'it returns false'. Refute it at one input. -/
def code128ReturnsWrong : ChangeSpec := { name := "code128Returns", fn := fun _ => fun
  | [d] => { results := [.lit (.bool false)], args := [d] }
  | _ => none }
def Code128ReturnsWrongFalsely : Prop := code128ReturnsRow.holds Try.pinned (OpenSpec.ofChange code128ReturnsWrong)

/-- 'barscanlaw13.Code128Detects': WHATEVER THE INPUT: true; the input reads as it did. -/
def code128DetectsSpec : ChangeSpec := { name := "code128Detects", fn := fun _ => fun
  | [d1, d2, d3] => { results := [.lit (.bool true)], args := [d1, d2, d3] }
  | _ => none }
def code128DetectsRow : OpenClaim := { program := "ytofedeokliljkaa", sum := "c0d0011c9ce504e2aad217cbb8fb045a3b899113023e3a3981f349b3d50d5dce", func := "barscan/barscanlaw13.Code128Detects", spec := "code128Detects", unfollowed := true, recurses := true, plainKeys := false, apart := false }
def Code128DetectsSaid : Prop := code128DetectsRow.holds Try.pinned (OpenSpec.ofChange code128DetectsSpec)

/-- ITS FALSE NEIGHBOUR: 'it returns false'. Refute it at one input. -/
def code128DetectsWrong : ChangeSpec := { name := "code128Detects", fn := fun _ => fun
  | [d1, d2, d3] => { results := [.lit (.bool false)], args := [d1, d2, d3] }
  | _ => none }
def Code128DetectsWrongFalsely : Prop := code128DetectsRow.holds Try.pinned (OpenSpec.ofChange code128DetectsWrong)

/-- 'barscanlaw13.Code128Values': WHATEVER THE INPUT: true; the input reads as it did. -/
def code128ValuesSpec : ChangeSpec := { name := "code128Values", fn := fun _ => fun
  | [d1, d2] => { results := [.lit (.bool true)], args := [d1, d2] }
  | _ => none }
def code128ValuesRow : OpenClaim := { program := "ytofedeokliljkaa", sum := "c0d0011c9ce504e2aad217cbb8fb045a3b899113023e3a3981f349b3d50d5dce", func := "barscan/barscanlaw13.Code128Values", spec := "code128Values", unfollowed := true, recurses := true, plainKeys := false, apart := false }
def Code128ValuesSaid : Prop := code128ValuesRow.holds Try.pinned (OpenSpec.ofChange code128ValuesSpec)

/-- ITS FALSE NEIGHBOUR: 'it returns false'. Refute it at one input. -/
def code128ValuesWrong : ChangeSpec := { name := "code128Values", fn := fun _ => fun
  | [d1, d2] => { results := [.lit (.bool false)], args := [d1, d2] }
  | _ => none }
def Code128ValuesWrongFalsely : Prop := code128ValuesRow.holds Try.pinned (OpenSpec.ofChange code128ValuesWrong)

/-- 'barscanlaw13.Code128Minimal': WHATEVER THE INPUT: true; the input reads as it did. -/
def code128MinimalSpec : ChangeSpec := { name := "code128Minimal", fn := fun _ => fun
  | [d1, d2] => { results := [.lit (.bool true)], args := [d1, d2] }
  | _ => none }
def code128MinimalRow : OpenClaim := { program := "ytofedeokliljkaa", sum := "c0d0011c9ce504e2aad217cbb8fb045a3b899113023e3a3981f349b3d50d5dce", func := "barscan/barscanlaw13.Code128Minimal", spec := "code128Minimal", unfollowed := true, recurses := true, plainKeys := false, apart := false }
def Code128MinimalSaid : Prop := code128MinimalRow.holds Try.pinned (OpenSpec.ofChange code128MinimalSpec)

/-- ITS FALSE NEIGHBOUR: 'it returns false'. Refute it at one input. -/
def code128MinimalWrong : ChangeSpec := { name := "code128Minimal", fn := fun _ => fun
  | [d1, d2] => { results := [.lit (.bool false)], args := [d1, d2] }
  | _ => none }
def Code128MinimalWrongFalsely : Prop := code128MinimalRow.holds Try.pinned (OpenSpec.ofChange code128MinimalWrong)

/- THE SECOND FORM. 'bulk': how many values and letters a reading holds, each counted each time it is reached (what is shared counts as often as it is met; a slice's spare places count too). A statement '..UptoSaid' is the law's where the arguments, and the package variables that the reading takes, are together of bulk at most 1048576: NARROWER than '..Said'. Prove '..Said' where nothing that the law and all that it calls make is longer than what came in: it says more and counts as full. Else prove '..UptoSaid'. A law counts once. -/
mutual
def uptoBulk {H : Type} : DataW H → Nat
  | .lit (.string bytes) => bytes.length + 1
  | .lit _ => 1
  | .nil => 1
  | .ptr d => uptoBulk d + 1
  | .slice elems spare => uptoBulkAll elems + uptoBulkAll spare + 1
  | .agg parts => uptoBulkAll parts + 1
  | .iface _ d => uptoBulk d + 1
  | .map entries => uptoBulkEntries entries + 1
  | .held _ => 1
def uptoBulkAll {H : Type} : List (DataW H) → Nat
  | [] => 0
  | d :: r => uptoBulk d + uptoBulkAll r
def uptoBulkEntries {H : Type} : List (Lit × DataW H) → Nat
  | [] => 0
  | x :: r => uptoBulkEntry x + uptoBulkEntries r
def uptoBulkEntry {H : Type} : Lit × DataW H → Nat
  | (.string bytes, d) => bytes.length + uptoBulk d + 1
  | (_, d) => uptoBulk d + 1
 end
def uptoSmall : (H : Type) → List (DataW H) → Bool := fun _ ds => decide (uptoBulkAll ds ≤ 1048576)
def OpenSpec.upto (s : _root_.Go.ChangeSpec) : _root_.Go.OpenSpec := { _root_.Go.OpenSpec.ofChange s with cond := some uptoSmall }

/-- 'barscanlaw13.Code128Chars', WHERE WHAT IT READS IS OF BULK AT MOST 1048576: true; the input reads as it did. -/
def code128CharsUptoRow : OpenClaim := { program := "ytofedeokliljkaa", sum := "c0d0011c9ce504e2aad217cbb8fb045a3b899113023e3a3981f349b3d50d5dce", func := "barscan/barscanlaw13.Code128Chars", spec := "code128Chars", unfollowed := true, recurses := true, plainKeys := false, apart := false, narrowed := true }
def Code128CharsUptoSaid : Prop := code128CharsUptoRow.holds Try.pinned (OpenSpec.upto code128CharsSpec)

/-- 'barscanlaw13.Code128Rows', WHERE WHAT IT READS IS OF BULK AT MOST 1048576: true; the input reads as it did. -/
def code128RowsUptoRow : OpenClaim := { program := "ytofedeokliljkaa", sum := "c0d0011c9ce504e2aad217cbb8fb045a3b899113023e3a3981f349b3d50d5dce", func := "barscan/barscanlaw13.Code128Rows", spec := "code128Rows", unfollowed := true, recurses := true, plainKeys := false, apart := false, narrowed := true }
def Code128RowsUptoSaid : Prop := code128RowsUptoRow.holds Try.pinned (OpenSpec.upto code128RowsSpec)

/-- 'barscanlaw13.Code128Decodes', WHERE WHAT IT READS IS OF BULK AT MOST 1048576: true; the input reads as it did. -/
def code128DecodesUptoRow : OpenClaim := { program := "ytofedeokliljkaa", sum := "c0d0011c9ce504e2aad217cbb8fb045a3b899113023e3a3981f349b3d50d5dce", func := "barscan/barscanlaw13.Code128Decodes", spec := "code128Decodes", unfollowed := true, recurses := true, plainKeys := false, apart := false, narrowed := true }
def Code128DecodesUptoSaid : Prop := code128DecodesUptoRow.holds Try.pinned (OpenSpec.upto code128DecodesSpec)

/-- 'barscanlaw13.Code128Returns', WHERE WHAT IT READS IS OF BULK AT MOST 1048576: true; the input reads as it did. -/
def code128ReturnsUptoRow : OpenClaim := { program := "ytofedeokliljkaa", sum := "c0d0011c9ce504e2aad217cbb8fb045a3b899113023e3a3981f349b3d50d5dce", func := "barscan/barscanlaw13.Code128Returns", spec := "code128Returns", unfollowed := true, recurses := true, plainKeys := false, apart := false, narrowed := true }
def Code128ReturnsUptoSaid : Prop := code128ReturnsUptoRow.holds Try.pinned (OpenSpec.upto code128ReturnsSpec)

/-- 'barscanlaw13.Code128Detects', WHERE WHAT IT READS IS OF BULK AT MOST 1048576: true; the input reads as it did. -/
def code128DetectsUptoRow : OpenClaim := { program := "ytofedeokliljkaa", sum := "c0d0011c9ce504e2aad217cbb8fb045a3b899113023e3a3981f349b3d50d5dce", func := "barscan/barscanlaw13.Code128Detects", spec := "code128Detects", unfollowed := true, recurses := true, plainKeys := false, apart := false, narrowed := true }
def Code128DetectsUptoSaid : Prop := code128DetectsUptoRow.holds Try.pinned (OpenSpec.upto code128DetectsSpec)

/-- 'barscanlaw13.Code128Values', WHERE WHAT IT READS IS OF BULK AT MOST 1048576: true; the input reads as it did. -/
def code128ValuesUptoRow : OpenClaim := { program := "ytofedeokliljkaa", sum := "c0d0011c9ce504e2aad217cbb8fb045a3b899113023e3a3981f349b3d50d5dce", func := "barscan/barscanlaw13.Code128Values", spec := "code128Values", unfollowed := true, recurses := true, plainKeys := false, apart := false, narrowed := true }
def Code128ValuesUptoSaid : Prop := code128ValuesUptoRow.holds Try.pinned (OpenSpec.upto code128ValuesSpec)

/-- 'barscanlaw13.Code128Minimal', WHERE WHAT IT READS IS OF BULK AT MOST 1048576: true; the input reads as it did. -/
def code128MinimalUptoRow : OpenClaim := { program := "ytofedeokliljkaa", sum := "c0d0011c9ce504e2aad217cbb8fb045a3b899113023e3a3981f349b3d50d5dce", func := "barscan/barscanlaw13.Code128Minimal", spec := "code128Minimal", unfollowed := true, recurses := true, plainKeys := false, apart := false, narrowed := true }
def Code128MinimalUptoSaid : Prop := code128MinimalUptoRow.holds Try.pinned (OpenSpec.upto code128MinimalSpec)

end Rows
end Go.Proofs.Ytofedeokliljkaa
