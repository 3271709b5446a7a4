/-
  No cell of these rows narrows 'for every input' (looked for: loops, veiled, ifaces, maps, wideKeys, modest, calm, conditions, laid).
  DERIVED. THE GIVEN ROWS OF THIS SEAT. 11 by the template 'for every input the law returns true; each argument reads behind the call as it read before'; 0 by the template 'total and deterministic' (their statements: YtidegbeadeoaeaaTotals.lean).
  GIVEN WITH THE SEED: the statements are not yours to turn. If you find one false, say at which input.
  Laid BY PROGRAM, IN A SANDBOX (cutbox-rows.mjs): the forced cells as the released guide's own fill.sh prints them over the translation e4f24e7c81433c3d… (all of the seat's roots in one cut). By AI agents, Wed Nov 11 2026. No macro, syntax, notation, axiom, sorry.
-/
import Derived.Test.YtidegbeadeoaeaaChecked
import GoSem.Claim
import GoSem.ClaimJoined
import GoSem.ClaimMapViews
import Derived.JoinedTies
import Derived.KernelRfl
namespace Go.Proofs.Ytidegbeadeoaeaa
/- THE CELL 'sum', in the pinned program and in every row, IS THE sha256 OF THE DUMP (.gsa) THAT YtidegbeadeoaeaaProg.lean LOADS. Nothing in Lean hashes anything: it is a label: what it is worth is what the hold of that sum in a sandbox is worth. -/
noncomputable def Try.pinned : Pinned := { name := "ytidegbeadeoaeaa", sum := "e4f24e7c81433c3d2bab2f13260c1cce14186286b41ec768664cde5cc186b7dc", checked := Try.checked }
namespace Rows
def none {H : Type} : Left H := { results := [], args := [] }

/-- 'laws.FnExactHappeningName': WHATEVER THE INPUT: true; the input reads as it did. -/
def fnExactHappeningNameSpec : ChangeSpec := { name := "fnExactHappeningName", fn := fun _ => fun
  | [d] => { results := [.lit (.bool true)], args := [d] }
  | _ => none }
def fnExactHappeningNameRow : OpenClaim := { program := "ytidegbeadeoaeaa", sum := "e4f24e7c81433c3d2bab2f13260c1cce14186286b41ec768664cde5cc186b7dc", func := "loop.example/g03004/laws.FnExactHappeningName", spec := "fnExactHappeningName", apart := false }
def FnExactHappeningNameSaid : Prop := fnExactHappeningNameRow.holds Try.pinned (OpenSpec.ofChange fnExactHappeningNameSpec)

/-- ITS FALSE NEIGHBOUR: 'it returns false'. Refute it at one input. -/
def fnExactHappeningNameWrong : ChangeSpec := { name := "fnExactHappeningName", fn := fun _ => fun
  | [d] => { results := [.lit (.bool false)], args := [d] }
  | _ => none }
def FnExactHappeningNameWrongFalsely : Prop := fnExactHappeningNameRow.holds Try.pinned (OpenSpec.ofChange fnExactHappeningNameWrong)

/-- 'laws.FnExactCountVoices': WHATEVER THE INPUT: true; the input reads as it did. -/
def fnExactCountVoicesSpec : ChangeSpec := { name := "fnExactCountVoices", fn := fun _ => fun
  | [d] => { results := [.lit (.bool true)], args := [d] }
  | _ => none }
def fnExactCountVoicesRow : OpenClaim := { program := "ytidegbeadeoaeaa", sum := "e4f24e7c81433c3d2bab2f13260c1cce14186286b41ec768664cde5cc186b7dc", func := "loop.example/g03004/laws.FnExactCountVoices", spec := "fnExactCountVoices", apart := false }
def FnExactCountVoicesSaid : Prop := fnExactCountVoicesRow.holds Try.pinned (OpenSpec.ofChange fnExactCountVoicesSpec)

/-- ITS FALSE NEIGHBOUR: 'it returns false'. Refute it at one input. -/
def fnExactCountVoicesWrong : ChangeSpec := { name := "fnExactCountVoices", fn := fun _ => fun
  | [d] => { results := [.lit (.bool false)], args := [d] }
  | _ => none }
def FnExactCountVoicesWrongFalsely : Prop := fnExactCountVoicesRow.holds Try.pinned (OpenSpec.ofChange fnExactCountVoicesWrong)

/-- 'laws.FnExactMoves': WHATEVER THE INPUT: true; the input reads as it did. -/
def fnExactMovesSpec : ChangeSpec := { name := "fnExactMoves", fn := fun _ => fun
  | [d1, d2] => { results := [.lit (.bool true)], args := [d1, d2] }
  | _ => none }
def fnExactMovesRow : OpenClaim := { program := "ytidegbeadeoaeaa", sum := "e4f24e7c81433c3d2bab2f13260c1cce14186286b41ec768664cde5cc186b7dc", func := "loop.example/g03004/laws.FnExactMoves", spec := "fnExactMoves", apart := false }
def FnExactMovesSaid : Prop := fnExactMovesRow.holds Try.pinned (OpenSpec.ofChange fnExactMovesSpec)

/-- ITS FALSE NEIGHBOUR: 'it returns false'. Refute it at one input. -/
def fnExactMovesWrong : ChangeSpec := { name := "fnExactMoves", fn := fun _ => fun
  | [d1, d2] => { results := [.lit (.bool false)], args := [d1, d2] }
  | _ => none }
def FnExactMovesWrongFalsely : Prop := fnExactMovesRow.holds Try.pinned (OpenSpec.ofChange fnExactMovesWrong)

/-- 'laws.FnExactExamplePlayers': WHATEVER THE INPUT: true; the input reads as it did. -/
def fnExactExamplePlayersSpec : ChangeSpec := { name := "fnExactExamplePlayers", fn := fun _ => fun
  | [] => { results := [.lit (.bool true)], args := [] }
  | _ => none }
def fnExactExamplePlayersRow : OpenClaim := { program := "ytidegbeadeoaeaa", sum := "e4f24e7c81433c3d2bab2f13260c1cce14186286b41ec768664cde5cc186b7dc", func := "loop.example/g03004/laws.FnExactExamplePlayers", spec := "fnExactExamplePlayers", apart := false }
def FnExactExamplePlayersSaid : Prop := fnExactExamplePlayersRow.holds Try.pinned (OpenSpec.ofChange fnExactExamplePlayersSpec)

/-- ITS FALSE NEIGHBOUR: 'it returns false'. Refute it at one input. -/
def fnExactExamplePlayersWrong : ChangeSpec := { name := "fnExactExamplePlayers", fn := fun _ => fun
  | [] => { results := [.lit (.bool false)], args := [] }
  | _ => none }
def FnExactExamplePlayersWrongFalsely : Prop := fnExactExamplePlayersRow.holds Try.pinned (OpenSpec.ofChange fnExactExamplePlayersWrong)

/-- 'laws.FnExactRestShare': WHATEVER THE INPUT: true; the input reads as it did. -/
def fnExactRestShareSpec : ChangeSpec := { name := "fnExactRestShare", fn := fun _ => fun
  | [d] => { results := [.lit (.bool true)], args := [d] }
  | _ => none }
def fnExactRestShareRow : OpenClaim := { program := "ytidegbeadeoaeaa", sum := "e4f24e7c81433c3d2bab2f13260c1cce14186286b41ec768664cde5cc186b7dc", func := "loop.example/g03004/laws.FnExactRestShare", spec := "fnExactRestShare", apart := false }
def FnExactRestShareSaid : Prop := fnExactRestShareRow.holds Try.pinned (OpenSpec.ofChange fnExactRestShareSpec)

/-- ITS FALSE NEIGHBOUR: 'it returns false'. Refute it at one input. -/
def fnExactRestShareWrong : ChangeSpec := { name := "fnExactRestShare", fn := fun _ => fun
  | [d] => { results := [.lit (.bool false)], args := [d] }
  | _ => none }
def FnExactRestShareWrongFalsely : Prop := fnExactRestShareRow.holds Try.pinned (OpenSpec.ofChange fnExactRestShareWrong)

/-- 'laws.FnExactAreWorks': WHATEVER THE INPUT: true; the input reads as it did. -/
def fnExactAreWorksSpec : ChangeSpec := { name := "fnExactAreWorks", fn := fun _ => fun
  | [d] => { results := [.lit (.bool true)], args := [d] }
  | _ => none }
def fnExactAreWorksRow : OpenClaim := { program := "ytidegbeadeoaeaa", sum := "e4f24e7c81433c3d2bab2f13260c1cce14186286b41ec768664cde5cc186b7dc", func := "loop.example/g03004/laws.FnExactAreWorks", spec := "fnExactAreWorks", unfollowed := true, recurses := true, apart := false }
def FnExactAreWorksSaid : Prop := fnExactAreWorksRow.holds Try.pinned (OpenSpec.ofChange fnExactAreWorksSpec)

/-- ITS FALSE NEIGHBOUR: 'it returns false'. Refute it at one input. -/
def fnExactAreWorksWrong : ChangeSpec := { name := "fnExactAreWorks", fn := fun _ => fun
  | [d] => { results := [.lit (.bool false)], args := [d] }
  | _ => none }
def FnExactAreWorksWrongFalsely : Prop := fnExactAreWorksRow.holds Try.pinned (OpenSpec.ofChange fnExactAreWorksWrong)

/-- 'laws.FnExactStepsAndLeaps': WHATEVER THE INPUT: true; the input reads as it did. -/
def fnExactStepsAndLeapsSpec : ChangeSpec := { name := "fnExactStepsAndLeaps", fn := fun _ => fun
  | [d1, d2] => { results := [.lit (.bool true)], args := [d1, d2] }
  | _ => none }
def fnExactStepsAndLeapsRow : OpenClaim := { program := "ytidegbeadeoaeaa", sum := "e4f24e7c81433c3d2bab2f13260c1cce14186286b41ec768664cde5cc186b7dc", func := "loop.example/g03004/laws.FnExactStepsAndLeaps", spec := "fnExactStepsAndLeaps", unfollowed := true, recurses := true, apart := false }
def FnExactStepsAndLeapsSaid : Prop := fnExactStepsAndLeapsRow.holds Try.pinned (OpenSpec.ofChange fnExactStepsAndLeapsSpec)

/-- ITS FALSE NEIGHBOUR: 'it returns false'. Refute it at one input. -/
def fnExactStepsAndLeapsWrong : ChangeSpec := { name := "fnExactStepsAndLeaps", fn := fun _ => fun
  | [d1, d2] => { results := [.lit (.bool false)], args := [d1, d2] }
  | _ => none }
def FnExactStepsAndLeapsWrongFalsely : Prop := fnExactStepsAndLeapsRow.holds Try.pinned (OpenSpec.ofChange fnExactStepsAndLeapsWrong)

/-- 'laws.FnExactProgramMs': WHATEVER THE INPUT: true; the input reads as it did. -/
def fnExactProgramMsSpec : ChangeSpec := { name := "fnExactProgramMs", fn := fun _ => fun
  | [d1, d2] => { results := [.lit (.bool true)], args := [d1, d2] }
  | _ => none }
def fnExactProgramMsRow : OpenClaim := { program := "ytidegbeadeoaeaa", sum := "e4f24e7c81433c3d2bab2f13260c1cce14186286b41ec768664cde5cc186b7dc", func := "loop.example/g03004/laws.FnExactProgramMs", spec := "fnExactProgramMs", unfollowed := true, recurses := true, apart := false }
def FnExactProgramMsSaid : Prop := fnExactProgramMsRow.holds Try.pinned (OpenSpec.ofChange fnExactProgramMsSpec)

/-- ITS FALSE NEIGHBOUR: 'it returns false'. Refute it at one input. -/
def fnExactProgramMsWrong : ChangeSpec := { name := "fnExactProgramMs", fn := fun _ => fun
  | [d1, d2] => { results := [.lit (.bool false)], args := [d1, d2] }
  | _ => none }
def FnExactProgramMsWrongFalsely : Prop := fnExactProgramMsRow.holds Try.pinned (OpenSpec.ofChange fnExactProgramMsWrong)

/-- 'laws.FnExactFormatChords': WHATEVER THE INPUT: true; the input reads as it did. -/
def fnExactFormatChordsSpec : ChangeSpec := { name := "fnExactFormatChords", fn := fun _ => fun
  | [d] => { results := [.lit (.bool true)], args := [d] }
  | _ => none }
def fnExactFormatChordsRow : OpenClaim := { program := "ytidegbeadeoaeaa", sum := "e4f24e7c81433c3d2bab2f13260c1cce14186286b41ec768664cde5cc186b7dc", func := "loop.example/g03004/laws.FnExactFormatChords", spec := "fnExactFormatChords", inPlace := ["internal/abi.NoEscape", "internal/bytealg.MakeNoZero"], unfollowed := true, recurses := true, apart := false }
def FnExactFormatChordsSaid : Prop := fnExactFormatChordsRow.holds Try.pinned (OpenSpec.ofChange fnExactFormatChordsSpec)

/-- ITS FALSE NEIGHBOUR: 'it returns false'. Refute it at one input. -/
def fnExactFormatChordsWrong : ChangeSpec := { name := "fnExactFormatChords", fn := fun _ => fun
  | [d] => { results := [.lit (.bool false)], args := [d] }
  | _ => none }
def FnExactFormatChordsWrongFalsely : Prop := fnExactFormatChordsRow.holds Try.pinned (OpenSpec.ofChange fnExactFormatChordsWrong)

/-- 'laws.FnExactOrderCost': WHATEVER THE INPUT: true; the input reads as it did. -/
def fnExactOrderCostSpec : ChangeSpec := { name := "fnExactOrderCost", fn := fun _ => fun
  | [d1, d2] => { results := [.lit (.bool true)], args := [d1, d2] }
  | _ => none }
def fnExactOrderCostRow : OpenClaim := { program := "ytidegbeadeoaeaa", sum := "e4f24e7c81433c3d2bab2f13260c1cce14186286b41ec768664cde5cc186b7dc", func := "loop.example/g03004/laws.FnExactOrderCost", spec := "fnExactOrderCost", unfollowed := true, recurses := true, apart := false }
def FnExactOrderCostSaid : Prop := fnExactOrderCostRow.holds Try.pinned (OpenSpec.ofChange fnExactOrderCostSpec)

/-- ITS FALSE NEIGHBOUR: 'it returns false'. Refute it at one input. -/
def fnExactOrderCostWrong : ChangeSpec := { name := "fnExactOrderCost", fn := fun _ => fun
  | [d1, d2] => { results := [.lit (.bool false)], args := [d1, d2] }
  | _ => none }
def FnExactOrderCostWrongFalsely : Prop := fnExactOrderCostRow.holds Try.pinned (OpenSpec.ofChange fnExactOrderCostWrong)

/-- 'laws.FnExactCountHappenings': WHATEVER THE INPUT: true; the input reads as it did. -/
def fnExactCountHappeningsSpec : ChangeSpec := { name := "fnExactCountHappenings", fn := fun _ => fun
  | [d1, d2] => { results := [.lit (.bool true)], args := [d1, d2] }
  | _ => none }
def fnExactCountHappeningsRow : OpenClaim := { program := "ytidegbeadeoaeaa", sum := "e4f24e7c81433c3d2bab2f13260c1cce14186286b41ec768664cde5cc186b7dc", func := "loop.example/g03004/laws.FnExactCountHappenings", spec := "fnExactCountHappenings", apart := false }
def FnExactCountHappeningsSaid : Prop := fnExactCountHappeningsRow.holds Try.pinned (OpenSpec.ofChange fnExactCountHappeningsSpec)

/-- ITS FALSE NEIGHBOUR: 'it returns false'. Refute it at one input. -/
def fnExactCountHappeningsWrong : ChangeSpec := { name := "fnExactCountHappenings", fn := fun _ => fun
  | [d1, d2] => { results := [.lit (.bool false)], args := [d1, d2] }
  | _ => none }
def FnExactCountHappeningsWrongFalsely : Prop := fnExactCountHappeningsRow.holds Try.pinned (OpenSpec.ofChange fnExactCountHappeningsWrong)

/- THE SECOND FORM. 'bulk': how many values and letters a reading holds, each counted each time it is reached (what is shared counts as often as it is met; a slice's spare places count too). A statement '..UptoSaid' is the law's where the arguments, and the package variables that the reading takes, are together of bulk at most 1048576: NARROWER than '..Said'. Prove '..Said' where nothing that the law and all that it calls make is longer than what came in: it says more and counts as full. Else prove '..UptoSaid'. A law counts once. -/
mutual
def uptoBulk {H : Type} : DataW H → Nat
  | .lit (.string bytes) => bytes.length + 1
  | .lit _ => 1
  | .nil => 1
  | .ptr d => uptoBulk d + 1
  | .slice elems spare => uptoBulkAll elems + uptoBulkAll spare + 1
  | .agg parts => uptoBulkAll parts + 1
  | .iface _ d => uptoBulk d + 1
  | .map entries => uptoBulkEntries entries + 1
  | .held _ => 1
def uptoBulkAll {H : Type} : List (DataW H) → Nat
  | [] => 0
  | d :: r => uptoBulk d + uptoBulkAll r
def uptoBulkEntries {H : Type} : List (Lit × DataW H) → Nat
  | [] => 0
  | x :: r => uptoBulkEntry x + uptoBulkEntries r
def uptoBulkEntry {H : Type} : Lit × DataW H → Nat
  | (.string bytes, d) => bytes.length + uptoBulk d + 1
  | (_, d) => uptoBulk d + 1
 end
def uptoSmall : (H : Type) → List (DataW H) → Bool := fun _ ds => decide (uptoBulkAll ds ≤ 1048576)
def OpenSpec.upto (s : _root_.Go.ChangeSpec) : _root_.Go.OpenSpec := { _root_.Go.OpenSpec.ofChange s with cond := some uptoSmall }

/-- 'laws.FnExactHappeningName', WHERE WHAT IT READS IS OF BULK AT MOST 1048576: true; the input reads as it did. -/
def fnExactHappeningNameUptoRow : OpenClaim := { program := "ytidegbeadeoaeaa", sum := "e4f24e7c81433c3d2bab2f13260c1cce14186286b41ec768664cde5cc186b7dc", func := "loop.example/g03004/laws.FnExactHappeningName", spec := "fnExactHappeningName", apart := false, narrowed := true }
def FnExactHappeningNameUptoSaid : Prop := fnExactHappeningNameUptoRow.holds Try.pinned (OpenSpec.upto fnExactHappeningNameSpec)

/-- 'laws.FnExactCountVoices', WHERE WHAT IT READS IS OF BULK AT MOST 1048576: true; the input reads as it did. -/
def fnExactCountVoicesUptoRow : OpenClaim := { program := "ytidegbeadeoaeaa", sum := "e4f24e7c81433c3d2bab2f13260c1cce14186286b41ec768664cde5cc186b7dc", func := "loop.example/g03004/laws.FnExactCountVoices", spec := "fnExactCountVoices", apart := false, narrowed := true }
def FnExactCountVoicesUptoSaid : Prop := fnExactCountVoicesUptoRow.holds Try.pinned (OpenSpec.upto fnExactCountVoicesSpec)

/-- 'laws.FnExactMoves', WHERE WHAT IT READS IS OF BULK AT MOST 1048576: true; the input reads as it did. -/
def fnExactMovesUptoRow : OpenClaim := { program := "ytidegbeadeoaeaa", sum := "e4f24e7c81433c3d2bab2f13260c1cce14186286b41ec768664cde5cc186b7dc", func := "loop.example/g03004/laws.FnExactMoves", spec := "fnExactMoves", apart := false, narrowed := true }
def FnExactMovesUptoSaid : Prop := fnExactMovesUptoRow.holds Try.pinned (OpenSpec.upto fnExactMovesSpec)

/-- 'laws.FnExactExamplePlayers', WHERE WHAT IT READS IS OF BULK AT MOST 1048576: true; the input reads as it did. -/
def fnExactExamplePlayersUptoRow : OpenClaim := { program := "ytidegbeadeoaeaa", sum := "e4f24e7c81433c3d2bab2f13260c1cce14186286b41ec768664cde5cc186b7dc", func := "loop.example/g03004/laws.FnExactExamplePlayers", spec := "fnExactExamplePlayers", apart := false, narrowed := true }
def FnExactExamplePlayersUptoSaid : Prop := fnExactExamplePlayersUptoRow.holds Try.pinned (OpenSpec.upto fnExactExamplePlayersSpec)

/-- 'laws.FnExactRestShare', WHERE WHAT IT READS IS OF BULK AT MOST 1048576: true; the input reads as it did. -/
def fnExactRestShareUptoRow : OpenClaim := { program := "ytidegbeadeoaeaa", sum := "e4f24e7c81433c3d2bab2f13260c1cce14186286b41ec768664cde5cc186b7dc", func := "loop.example/g03004/laws.FnExactRestShare", spec := "fnExactRestShare", apart := false, narrowed := true }
def FnExactRestShareUptoSaid : Prop := fnExactRestShareUptoRow.holds Try.pinned (OpenSpec.upto fnExactRestShareSpec)

/-- 'laws.FnExactAreWorks', WHERE WHAT IT READS IS OF BULK AT MOST 1048576: true; the input reads as it did. -/
def fnExactAreWorksUptoRow : OpenClaim := { program := "ytidegbeadeoaeaa", sum := "e4f24e7c81433c3d2bab2f13260c1cce14186286b41ec768664cde5cc186b7dc", func := "loop.example/g03004/laws.FnExactAreWorks", spec := "fnExactAreWorks", unfollowed := true, recurses := true, apart := false, narrowed := true }
def FnExactAreWorksUptoSaid : Prop := fnExactAreWorksUptoRow.holds Try.pinned (OpenSpec.upto fnExactAreWorksSpec)

/-- 'laws.FnExactStepsAndLeaps', WHERE WHAT IT READS IS OF BULK AT MOST 1048576: true; the input reads as it did. -/
def fnExactStepsAndLeapsUptoRow : OpenClaim := { program := "ytidegbeadeoaeaa", sum := "e4f24e7c81433c3d2bab2f13260c1cce14186286b41ec768664cde5cc186b7dc", func := "loop.example/g03004/laws.FnExactStepsAndLeaps", spec := "fnExactStepsAndLeaps", unfollowed := true, recurses := true, apart := false, narrowed := true }
def FnExactStepsAndLeapsUptoSaid : Prop := fnExactStepsAndLeapsUptoRow.holds Try.pinned (OpenSpec.upto fnExactStepsAndLeapsSpec)

/-- 'laws.FnExactProgramMs', WHERE WHAT IT READS IS OF BULK AT MOST 1048576: true; the input reads as it did. -/
def fnExactProgramMsUptoRow : OpenClaim := { program := "ytidegbeadeoaeaa", sum := "e4f24e7c81433c3d2bab2f13260c1cce14186286b41ec768664cde5cc186b7dc", func := "loop.example/g03004/laws.FnExactProgramMs", spec := "fnExactProgramMs", unfollowed := true, recurses := true, apart := false, narrowed := true }
def FnExactProgramMsUptoSaid : Prop := fnExactProgramMsUptoRow.holds Try.pinned (OpenSpec.upto fnExactProgramMsSpec)

/-- 'laws.FnExactFormatChords', WHERE WHAT IT READS IS OF BULK AT MOST 1048576: true; the input reads as it did. -/
def fnExactFormatChordsUptoRow : OpenClaim := { program := "ytidegbeadeoaeaa", sum := "e4f24e7c81433c3d2bab2f13260c1cce14186286b41ec768664cde5cc186b7dc", func := "loop.example/g03004/laws.FnExactFormatChords", spec := "fnExactFormatChords", inPlace := ["internal/abi.NoEscape", "internal/bytealg.MakeNoZero"], unfollowed := true, recurses := true, apart := false, narrowed := true }
def FnExactFormatChordsUptoSaid : Prop := fnExactFormatChordsUptoRow.holds Try.pinned (OpenSpec.upto fnExactFormatChordsSpec)

/-- 'laws.FnExactOrderCost', WHERE WHAT IT READS IS OF BULK AT MOST 1048576: true; the input reads as it did. -/
def fnExactOrderCostUptoRow : OpenClaim := { program := "ytidegbeadeoaeaa", sum := "e4f24e7c81433c3d2bab2f13260c1cce14186286b41ec768664cde5cc186b7dc", func := "loop.example/g03004/laws.FnExactOrderCost", spec := "fnExactOrderCost", unfollowed := true, recurses := true, apart := false, narrowed := true }
def FnExactOrderCostUptoSaid : Prop := fnExactOrderCostUptoRow.holds Try.pinned (OpenSpec.upto fnExactOrderCostSpec)

/-- 'laws.FnExactCountHappenings', WHERE WHAT IT READS IS OF BULK AT MOST 1048576: true; the input reads as it did. -/
def fnExactCountHappeningsUptoRow : OpenClaim := { program := "ytidegbeadeoaeaa", sum := "e4f24e7c81433c3d2bab2f13260c1cce14186286b41ec768664cde5cc186b7dc", func := "loop.example/g03004/laws.FnExactCountHappenings", spec := "fnExactCountHappenings", apart := false, narrowed := true }
def FnExactCountHappeningsUptoSaid : Prop := fnExactCountHappeningsUptoRow.holds Try.pinned (OpenSpec.upto fnExactCountHappeningsSpec)

end Rows
end Go.Proofs.Ytidegbeadeoaeaa
