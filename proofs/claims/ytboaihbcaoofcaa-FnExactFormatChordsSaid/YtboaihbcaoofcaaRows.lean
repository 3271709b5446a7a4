/-
  No cell of these rows narrows 'for every input' (looked for: loops, veiled, ifaces, maps, wideKeys, modest, calm, conditions, laid).
  DERIVED. THE GIVEN ROWS OF THIS SEAT. 4 by the template 'for every input the law returns true; each argument reads behind the call as it read before'; 0 by the template 'total and deterministic' (their statements: YtboaihbcaoofcaaTotals.lean).
  GIVEN WITH THE SEED: the statements are not yours to turn. If you find one false, say at which input.
  Laid BY PROGRAM, IN A SANDBOX (cutbox-rows.mjs): the forced cells as the released guide's own fill.sh prints them over the translation cb6f2232f294a5c5… (all of the seat's roots in one cut). By AI agents, Wed Nov 11 2026. No macro, syntax, notation, axiom, sorry.
-/
import Derived.Test.YtboaihbcaoofcaaChecked
import GoSem.Claim
import GoSem.ClaimJoined
import GoSem.ClaimMapViews
import Derived.JoinedTies
import Derived.KernelRfl
namespace Go.Proofs.Ytboaihbcaoofcaa
/- THE CELL 'sum', in the pinned program and in every row, IS THE sha256 OF THE DUMP (.gsa) THAT YtboaihbcaoofcaaProg.lean LOADS. Nothing in Lean hashes anything: it is a label: what it is worth is what the hold of that sum in a sandbox is worth. -/
noncomputable def Try.pinned : Pinned := { name := "ytboaihbcaoofcaa", sum := "cb6f2232f294a5c5471af439769db9ff2808d389c96dccfe943bed15c74ce308", checked := Try.checked }
namespace Rows
def none {H : Type} : Left H := { results := [], args := [] }

/-- 'laws.FnExactFormatChords': WHATEVER THE INPUT: true; the input reads as it did. -/
def fnExactFormatChordsSpec : ChangeSpec := { name := "fnExactFormatChords", fn := fun _ => fun
  | [d] => { results := [.lit (.bool true)], args := [d] }
  | _ => none }
def fnExactFormatChordsRow : OpenClaim := { program := "ytboaihbcaoofcaa", sum := "cb6f2232f294a5c5471af439769db9ff2808d389c96dccfe943bed15c74ce308", func := "loop.example/g03004/laws.FnExactFormatChords", spec := "fnExactFormatChords", inPlace := ["internal/abi.NoEscape", "internal/bytealg.MakeNoZero"], unfollowed := true, recurses := true, apart := false }
def FnExactFormatChordsSaid : Prop := fnExactFormatChordsRow.holds Try.pinned (OpenSpec.ofChange fnExactFormatChordsSpec)

/-- ITS FALSE NEIGHBOUR: 'it returns false'. Refute it at one input. -/
def fnExactFormatChordsWrong : ChangeSpec := { name := "fnExactFormatChords", fn := fun _ => fun
  | [d] => { results := [.lit (.bool false)], args := [d] }
  | _ => none }
def FnExactFormatChordsWrongFalsely : Prop := fnExactFormatChordsRow.holds Try.pinned (OpenSpec.ofChange fnExactFormatChordsWrong)

/-- 'laws.FnExactCountHappenings': WHATEVER THE INPUT: true; the input reads as it did. -/
def fnExactCountHappeningsSpec : ChangeSpec := { name := "fnExactCountHappenings", fn := fun _ => fun
  | [d1, d2] => { results := [.lit (.bool true)], args := [d1, d2] }
  | _ => none }
def fnExactCountHappeningsRow : OpenClaim := { program := "ytboaihbcaoofcaa", sum := "cb6f2232f294a5c5471af439769db9ff2808d389c96dccfe943bed15c74ce308", func := "loop.example/g03004/laws.FnExactCountHappenings", spec := "fnExactCountHappenings", apart := false }
def FnExactCountHappeningsSaid : Prop := fnExactCountHappeningsRow.holds Try.pinned (OpenSpec.ofChange fnExactCountHappeningsSpec)

/-- ITS FALSE NEIGHBOUR: 'it returns false'. Refute it at one input. -/
def fnExactCountHappeningsWrong : ChangeSpec := { name := "fnExactCountHappenings", fn := fun _ => fun
  | [d1, d2] => { results := [.lit (.bool false)], args := [d1, d2] }
  | _ => none }
def FnExactCountHappeningsWrongFalsely : Prop := fnExactCountHappeningsRow.holds Try.pinned (OpenSpec.ofChange fnExactCountHappeningsWrong)

/-- 'laws.FnExactDensestTick': WHATEVER THE INPUT: true; the input reads as it did. -/
def fnExactDensestTickSpec : ChangeSpec := { name := "fnExactDensestTick", fn := fun _ => fun
  | [d] => { results := [.lit (.bool true)], args := [d] }
  | _ => none }
def fnExactDensestTickRow : OpenClaim := { program := "ytboaihbcaoofcaa", sum := "cb6f2232f294a5c5471af439769db9ff2808d389c96dccfe943bed15c74ce308", func := "loop.example/g03004/laws.FnExactDensestTick", spec := "fnExactDensestTick", recurses := true, apart := false }
def FnExactDensestTickSaid : Prop := fnExactDensestTickRow.holds Try.pinned (OpenSpec.ofChange fnExactDensestTickSpec)

/-- ITS FALSE NEIGHBOUR: 'it returns false'. Refute it at one input. -/
def fnExactDensestTickWrong : ChangeSpec := { name := "fnExactDensestTick", fn := fun _ => fun
  | [d] => { results := [.lit (.bool false)], args := [d] }
  | _ => none }
def FnExactDensestTickWrongFalsely : Prop := fnExactDensestTickRow.holds Try.pinned (OpenSpec.ofChange fnExactDensestTickWrong)

/-- 'laws.FnExactArePartsTrue': WHATEVER THE INPUT: true; the input reads as it did. -/
def fnExactArePartsTrueSpec : ChangeSpec := { name := "fnExactArePartsTrue", fn := fun _ => fun
  | [d] => { results := [.lit (.bool true)], args := [d] }
  | _ => none }
def fnExactArePartsTrueRow : OpenClaim := { program := "ytboaihbcaoofcaa", sum := "cb6f2232f294a5c5471af439769db9ff2808d389c96dccfe943bed15c74ce308", func := "loop.example/g03004/laws.FnExactArePartsTrue", spec := "fnExactArePartsTrue", unfollowed := true, recurses := true, apart := false }
def FnExactArePartsTrueSaid : Prop := fnExactArePartsTrueRow.holds Try.pinned (OpenSpec.ofChange fnExactArePartsTrueSpec)

/-- ITS FALSE NEIGHBOUR: 'it returns false'. Refute it at one input. -/
def fnExactArePartsTrueWrong : ChangeSpec := { name := "fnExactArePartsTrue", fn := fun _ => fun
  | [d] => { results := [.lit (.bool false)], args := [d] }
  | _ => none }
def FnExactArePartsTrueWrongFalsely : Prop := fnExactArePartsTrueRow.holds Try.pinned (OpenSpec.ofChange fnExactArePartsTrueWrong)

/- THE SECOND FORM. 'bulk': how many values and letters a reading holds, each counted each time it is reached (what is shared counts as often as it is met; a slice's spare places count too). A statement '..UptoSaid' is the law's where the arguments, and the package variables that the reading takes, are together of bulk at most 1048576: NARROWER than '..Said'. Prove '..Said' where nothing that the law and all that it calls make is longer than what came in: it says more and counts as full. Else prove '..UptoSaid'. A law counts once. -/
mutual
def uptoBulk {H : Type} : DataW H → Nat
  | .lit (.string bytes) => bytes.length + 1
  | .lit _ => 1
  | .nil => 1
  | .ptr d => uptoBulk d + 1
  | .slice elems spare => uptoBulkAll elems + uptoBulkAll spare + 1
  | .agg parts => uptoBulkAll parts + 1
  | .iface _ d => uptoBulk d + 1
  | .map entries => uptoBulkEntries entries + 1
  | .held _ => 1
def uptoBulkAll {H : Type} : List (DataW H) → Nat
  | [] => 0
  | d :: r => uptoBulk d + uptoBulkAll r
def uptoBulkEntries {H : Type} : List (Lit × DataW H) → Nat
  | [] => 0
  | x :: r => uptoBulkEntry x + uptoBulkEntries r
def uptoBulkEntry {H : Type} : Lit × DataW H → Nat
  | (.string bytes, d) => bytes.length + uptoBulk d + 1
  | (_, d) => uptoBulk d + 1
 end
def uptoSmall : (H : Type) → List (DataW H) → Bool := fun _ ds => decide (uptoBulkAll ds ≤ 1048576)
def OpenSpec.upto (s : _root_.Go.ChangeSpec) : _root_.Go.OpenSpec := { _root_.Go.OpenSpec.ofChange s with cond := some uptoSmall }

/-- 'laws.FnExactFormatChords', WHERE WHAT IT READS IS OF BULK AT MOST 1048576: true; the input reads as it did. -/
def fnExactFormatChordsUptoRow : OpenClaim := { program := "ytboaihbcaoofcaa", sum := "cb6f2232f294a5c5471af439769db9ff2808d389c96dccfe943bed15c74ce308", func := "loop.example/g03004/laws.FnExactFormatChords", spec := "fnExactFormatChords", inPlace := ["internal/abi.NoEscape", "internal/bytealg.MakeNoZero"], unfollowed := true, recurses := true, apart := false, narrowed := true }
def FnExactFormatChordsUptoSaid : Prop := fnExactFormatChordsUptoRow.holds Try.pinned (OpenSpec.upto fnExactFormatChordsSpec)

/-- 'laws.FnExactCountHappenings', WHERE WHAT IT READS IS OF BULK AT MOST 1048576: true; the input reads as it did. -/
def fnExactCountHappeningsUptoRow : OpenClaim := { program := "ytboaihbcaoofcaa", sum := "cb6f2232f294a5c5471af439769db9ff2808d389c96dccfe943bed15c74ce308", func := "loop.example/g03004/laws.FnExactCountHappenings", spec := "fnExactCountHappenings", apart := false, narrowed := true }
def FnExactCountHappeningsUptoSaid : Prop := fnExactCountHappeningsUptoRow.holds Try.pinned (OpenSpec.upto fnExactCountHappeningsSpec)

/-- 'laws.FnExactDensestTick', WHERE WHAT IT READS IS OF BULK AT MOST 1048576: true; the input reads as it did. -/
def fnExactDensestTickUptoRow : OpenClaim := { program := "ytboaihbcaoofcaa", sum := "cb6f2232f294a5c5471af439769db9ff2808d389c96dccfe943bed15c74ce308", func := "loop.example/g03004/laws.FnExactDensestTick", spec := "fnExactDensestTick", recurses := true, apart := false, narrowed := true }
def FnExactDensestTickUptoSaid : Prop := fnExactDensestTickUptoRow.holds Try.pinned (OpenSpec.upto fnExactDensestTickSpec)

/-- 'laws.FnExactArePartsTrue', WHERE WHAT IT READS IS OF BULK AT MOST 1048576: true; the input reads as it did. -/
def fnExactArePartsTrueUptoRow : OpenClaim := { program := "ytboaihbcaoofcaa", sum := "cb6f2232f294a5c5471af439769db9ff2808d389c96dccfe943bed15c74ce308", func := "loop.example/g03004/laws.FnExactArePartsTrue", spec := "fnExactArePartsTrue", unfollowed := true, recurses := true, apart := false, narrowed := true }
def FnExactArePartsTrueUptoSaid : Prop := fnExactArePartsTrueUptoRow.holds Try.pinned (OpenSpec.upto fnExactArePartsTrueSpec)

end Rows
end Go.Proofs.Ytboaihbcaoofcaa
