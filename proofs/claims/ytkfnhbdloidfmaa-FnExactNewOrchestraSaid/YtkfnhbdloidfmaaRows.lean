/-
  No cell of these rows narrows 'for every input' (looked for: loops, veiled, ifaces, maps, wideKeys, modest, calm, conditions, laid).
  DERIVED. THE GIVEN ROWS OF THIS SEAT. 10 by the template 'for every input the law returns true; each argument reads behind the call as it read before'; 0 by the template 'total and deterministic' (their statements: YtkfnhbdloidfmaaTotals.lean).
  GIVEN WITH THE SEED: the statements are not yours to turn. If you find one false, say at which input.
  Laid BY PROGRAM, IN A SANDBOX (cutbox-rows.mjs): the forced cells as the released guide's own fill.sh prints them over the translation d148771b38d5720d… (all of the seat's roots in one cut). By AI agents, Wed Nov 11 2026. No macro, syntax, notation, axiom, sorry.
-/
import Derived.Test.YtkfnhbdloidfmaaChecked
import GoSem.Claim
import GoSem.ClaimJoined
import GoSem.ClaimMapViews
import Derived.JoinedTies
import Derived.KernelRfl
namespace Go.Proofs.Ytkfnhbdloidfmaa
/- THE CELL 'sum', in the pinned program and in every row, IS THE sha256 OF THE DUMP (.gsa) THAT YtkfnhbdloidfmaaProg.lean LOADS. Nothing in Lean hashes anything: it is a label: what it is worth is what the hold of that sum in a sandbox is worth. -/
noncomputable def Try.pinned : Pinned := { name := "ytkfnhbdloidfmaa", sum := "d148771b38d5720d11541acf212214d71efc1456446f70fda6afa8f95bb0b07a", checked := Try.checked }
namespace Rows
def none {H : Type} : Left H := { results := [], args := [] }

/-- 'laws.FnExactExamplePlayers': WHATEVER THE INPUT: true; the input reads as it did. -/
def fnExactExamplePlayersSpec : ChangeSpec := { name := "fnExactExamplePlayers", fn := fun _ => fun
  | [] => { results := [.lit (.bool true)], args := [] }
  | _ => none }
def fnExactExamplePlayersRow : OpenClaim := { program := "ytkfnhbdloidfmaa", sum := "d148771b38d5720d11541acf212214d71efc1456446f70fda6afa8f95bb0b07a", func := "loop.example/g03004/laws.FnExactExamplePlayers", spec := "fnExactExamplePlayers", apart := false }
def FnExactExamplePlayersSaid : Prop := fnExactExamplePlayersRow.holds Try.pinned (OpenSpec.ofChange fnExactExamplePlayersSpec)

/-- ITS FALSE NEIGHBOUR: 'it returns false'. Refute it at one input. -/
def fnExactExamplePlayersWrong : ChangeSpec := { name := "fnExactExamplePlayers", fn := fun _ => fun
  | [] => { results := [.lit (.bool false)], args := [] }
  | _ => none }
def FnExactExamplePlayersWrongFalsely : Prop := fnExactExamplePlayersRow.holds Try.pinned (OpenSpec.ofChange fnExactExamplePlayersWrong)

/-- 'laws.FnSpliced': WHATEVER THE INPUT: true; the input reads as it did. -/
def fnSplicedSpec : ChangeSpec := { name := "fnSpliced", fn := fun _ => fun
  | [d] => { results := [.lit (.bool true)], args := [d] }
  | _ => none }
def fnSplicedRow : OpenClaim := { program := "ytkfnhbdloidfmaa", sum := "d148771b38d5720d11541acf212214d71efc1456446f70fda6afa8f95bb0b07a", func := "loop.example/g03004/laws.FnSpliced", spec := "fnSpliced", unfollowed := true, recurses := true, apart := false }
def FnSplicedSaid : Prop := fnSplicedRow.holds Try.pinned (OpenSpec.ofChange fnSplicedSpec)

/-- ITS FALSE NEIGHBOUR: 'it returns false'. Refute it at one input. -/
def fnSplicedWrong : ChangeSpec := { name := "fnSpliced", fn := fun _ => fun
  | [d] => { results := [.lit (.bool false)], args := [d] }
  | _ => none }
def FnSplicedWrongFalsely : Prop := fnSplicedRow.holds Try.pinned (OpenSpec.ofChange fnSplicedWrong)

/-- 'laws.FnOrdered': WHATEVER THE INPUT: true; the input reads as it did. -/
def fnOrderedSpec : ChangeSpec := { name := "fnOrdered", fn := fun _ => fun
  | [d] => { results := [.lit (.bool true)], args := [d] }
  | _ => none }
def fnOrderedRow : OpenClaim := { program := "ytkfnhbdloidfmaa", sum := "d148771b38d5720d11541acf212214d71efc1456446f70fda6afa8f95bb0b07a", func := "loop.example/g03004/laws.FnOrdered", spec := "fnOrdered", unfollowed := true, recurses := true, apart := false }
def FnOrderedSaid : Prop := fnOrderedRow.holds Try.pinned (OpenSpec.ofChange fnOrderedSpec)

/-- ITS FALSE NEIGHBOUR: 'it returns false'. Refute it at one input. -/
def fnOrderedWrong : ChangeSpec := { name := "fnOrdered", fn := fun _ => fun
  | [d] => { results := [.lit (.bool false)], args := [d] }
  | _ => none }
def FnOrderedWrongFalsely : Prop := fnOrderedRow.holds Try.pinned (OpenSpec.ofChange fnOrderedWrong)

/-- 'laws.FnExactBestOrder': WHATEVER THE INPUT: true; the input reads as it did. -/
def fnExactBestOrderSpec : ChangeSpec := { name := "fnExactBestOrder", fn := fun _ => fun
  | [d] => { results := [.lit (.bool true)], args := [d] }
  | _ => none }
def fnExactBestOrderRow : OpenClaim := { program := "ytkfnhbdloidfmaa", sum := "d148771b38d5720d11541acf212214d71efc1456446f70fda6afa8f95bb0b07a", func := "loop.example/g03004/laws.FnExactBestOrder", spec := "fnExactBestOrder", unfollowed := true, recurses := true, apart := false }
def FnExactBestOrderSaid : Prop := fnExactBestOrderRow.holds Try.pinned (OpenSpec.ofChange fnExactBestOrderSpec)

/-- ITS FALSE NEIGHBOUR: 'it returns false'. Refute it at one input. -/
def fnExactBestOrderWrong : ChangeSpec := { name := "fnExactBestOrder", fn := fun _ => fun
  | [d] => { results := [.lit (.bool false)], args := [d] }
  | _ => none }
def FnExactBestOrderWrongFalsely : Prop := fnExactBestOrderRow.holds Try.pinned (OpenSpec.ofChange fnExactBestOrderWrong)

/-- 'laws.FnExactWriteAll': WHATEVER THE INPUT: true; the input reads as it did. -/
def fnExactWriteAllSpec : ChangeSpec := { name := "fnExactWriteAll", fn := fun _ => fun
  | [d] => { results := [.lit (.bool true)], args := [d] }
  | _ => none }
def fnExactWriteAllRow : OpenClaim := { program := "ytkfnhbdloidfmaa", sum := "d148771b38d5720d11541acf212214d71efc1456446f70fda6afa8f95bb0b07a", func := "loop.example/g03004/laws.FnExactWriteAll", spec := "fnExactWriteAll", apart := false }
def FnExactWriteAllSaid : Prop := fnExactWriteAllRow.holds Try.pinned (OpenSpec.ofChange fnExactWriteAllSpec)

/-- ITS FALSE NEIGHBOUR: 'it returns false'. Refute it at one input. -/
def fnExactWriteAllWrong : ChangeSpec := { name := "fnExactWriteAll", fn := fun _ => fun
  | [d] => { results := [.lit (.bool false)], args := [d] }
  | _ => none }
def FnExactWriteAllWrongFalsely : Prop := fnExactWriteAllRow.holds Try.pinned (OpenSpec.ofChange fnExactWriteAllWrong)

/-- 'laws.FnExactDensestTick': WHATEVER THE INPUT: true; the input reads as it did. -/
def fnExactDensestTickSpec : ChangeSpec := { name := "fnExactDensestTick", fn := fun _ => fun
  | [d] => { results := [.lit (.bool true)], args := [d] }
  | _ => none }
def fnExactDensestTickRow : OpenClaim := { program := "ytkfnhbdloidfmaa", sum := "d148771b38d5720d11541acf212214d71efc1456446f70fda6afa8f95bb0b07a", func := "loop.example/g03004/laws.FnExactDensestTick", spec := "fnExactDensestTick", recurses := true, apart := false }
def FnExactDensestTickSaid : Prop := fnExactDensestTickRow.holds Try.pinned (OpenSpec.ofChange fnExactDensestTickSpec)

/-- ITS FALSE NEIGHBOUR: 'it returns false'. Refute it at one input. -/
def fnExactDensestTickWrong : ChangeSpec := { name := "fnExactDensestTick", fn := fun _ => fun
  | [d] => { results := [.lit (.bool false)], args := [d] }
  | _ => none }
def FnExactDensestTickWrongFalsely : Prop := fnExactDensestTickRow.holds Try.pinned (OpenSpec.ofChange fnExactDensestTickWrong)

/-- 'laws.FnExactPartFor': WHATEVER THE INPUT: true; the input reads as it did. -/
def fnExactPartForSpec : ChangeSpec := { name := "fnExactPartFor", fn := fun _ => fun
  | [d1, d2] => { results := [.lit (.bool true)], args := [d1, d2] }
  | _ => none }
def fnExactPartForRow : OpenClaim := { program := "ytkfnhbdloidfmaa", sum := "d148771b38d5720d11541acf212214d71efc1456446f70fda6afa8f95bb0b07a", func := "loop.example/g03004/laws.FnExactPartFor", spec := "fnExactPartFor", unfollowed := true, recurses := true, apart := false }
def FnExactPartForSaid : Prop := fnExactPartForRow.holds Try.pinned (OpenSpec.ofChange fnExactPartForSpec)

/-- ITS FALSE NEIGHBOUR: 'it returns false'. Refute it at one input. -/
def fnExactPartForWrong : ChangeSpec := { name := "fnExactPartFor", fn := fun _ => fun
  | [d1, d2] => { results := [.lit (.bool false)], args := [d1, d2] }
  | _ => none }
def FnExactPartForWrongFalsely : Prop := fnExactPartForRow.holds Try.pinned (OpenSpec.ofChange fnExactPartForWrong)

/-- 'laws.FnExactChordsIn': WHATEVER THE INPUT: true; the input reads as it did. -/
def fnExactChordsInSpec : ChangeSpec := { name := "fnExactChordsIn", fn := fun _ => fun
  | [d] => { results := [.lit (.bool true)], args := [d] }
  | _ => none }
def fnExactChordsInRow : OpenClaim := { program := "ytkfnhbdloidfmaa", sum := "d148771b38d5720d11541acf212214d71efc1456446f70fda6afa8f95bb0b07a", func := "loop.example/g03004/laws.FnExactChordsIn", spec := "fnExactChordsIn", recurses := true, apart := false }
def FnExactChordsInSaid : Prop := fnExactChordsInRow.holds Try.pinned (OpenSpec.ofChange fnExactChordsInSpec)

/-- ITS FALSE NEIGHBOUR: 'it returns false'. Refute it at one input. -/
def fnExactChordsInWrong : ChangeSpec := { name := "fnExactChordsIn", fn := fun _ => fun
  | [d] => { results := [.lit (.bool false)], args := [d] }
  | _ => none }
def FnExactChordsInWrongFalsely : Prop := fnExactChordsInRow.holds Try.pinned (OpenSpec.ofChange fnExactChordsInWrong)

/-- 'laws.FnExactNewOrchestra': WHATEVER THE INPUT: true; the input reads as it did. -/
def fnExactNewOrchestraSpec : ChangeSpec := { name := "fnExactNewOrchestra", fn := fun _ => fun
  | [d1, d2] => { results := [.lit (.bool true)], args := [d1, d2] }
  | _ => none }
def fnExactNewOrchestraRow : OpenClaim := { program := "ytkfnhbdloidfmaa", sum := "d148771b38d5720d11541acf212214d71efc1456446f70fda6afa8f95bb0b07a", func := "loop.example/g03004/laws.FnExactNewOrchestra", spec := "fnExactNewOrchestra", unfollowed := true, recurses := true, apart := false }
def FnExactNewOrchestraSaid : Prop := fnExactNewOrchestraRow.holds Try.pinned (OpenSpec.ofChange fnExactNewOrchestraSpec)

/-- ITS FALSE NEIGHBOUR: 'it returns false'. Refute it at one input. -/
def fnExactNewOrchestraWrong : ChangeSpec := { name := "fnExactNewOrchestra", fn := fun _ => fun
  | [d1, d2] => { results := [.lit (.bool false)], args := [d1, d2] }
  | _ => none }
def FnExactNewOrchestraWrongFalsely : Prop := fnExactNewOrchestraRow.holds Try.pinned (OpenSpec.ofChange fnExactNewOrchestraWrong)

/-- 'laws.FnExactArePartsTrue': WHATEVER THE INPUT: true; the input reads as it did. -/
def fnExactArePartsTrueSpec : ChangeSpec := { name := "fnExactArePartsTrue", fn := fun _ => fun
  | [d] => { results := [.lit (.bool true)], args := [d] }
  | _ => none }
def fnExactArePartsTrueRow : OpenClaim := { program := "ytkfnhbdloidfmaa", sum := "d148771b38d5720d11541acf212214d71efc1456446f70fda6afa8f95bb0b07a", func := "loop.example/g03004/laws.FnExactArePartsTrue", spec := "fnExactArePartsTrue", unfollowed := true, recurses := true, apart := false }
def FnExactArePartsTrueSaid : Prop := fnExactArePartsTrueRow.holds Try.pinned (OpenSpec.ofChange fnExactArePartsTrueSpec)

/-- ITS FALSE NEIGHBOUR: 'it returns false'. Refute it at one input. -/
def fnExactArePartsTrueWrong : ChangeSpec := { name := "fnExactArePartsTrue", fn := fun _ => fun
  | [d] => { results := [.lit (.bool false)], args := [d] }
  | _ => none }
def FnExactArePartsTrueWrongFalsely : Prop := fnExactArePartsTrueRow.holds Try.pinned (OpenSpec.ofChange fnExactArePartsTrueWrong)

/- THE SECOND FORM. 'bulk': how many values and letters a reading holds, each counted each time it is reached (what is shared counts as often as it is met; a slice's spare places count too). A statement '..UptoSaid' is the law's where the arguments, and the package variables that the reading takes, are together of bulk at most 1048576: NARROWER than '..Said'. Prove '..Said' where nothing that the law and all that it calls make is longer than what came in: it says more and counts as full. Else prove '..UptoSaid'. A law counts once. -/
mutual
def uptoBulk {H : Type} : DataW H → Nat
  | .lit (.string bytes) => bytes.length + 1
  | .lit _ => 1
  | .nil => 1
  | .ptr d => uptoBulk d + 1
  | .slice elems spare => uptoBulkAll elems + uptoBulkAll spare + 1
  | .agg parts => uptoBulkAll parts + 1
  | .iface _ d => uptoBulk d + 1
  | .map entries => uptoBulkEntries entries + 1
  | .held _ => 1
def uptoBulkAll {H : Type} : List (DataW H) → Nat
  | [] => 0
  | d :: r => uptoBulk d + uptoBulkAll r
def uptoBulkEntries {H : Type} : List (Lit × DataW H) → Nat
  | [] => 0
  | x :: r => uptoBulkEntry x + uptoBulkEntries r
def uptoBulkEntry {H : Type} : Lit × DataW H → Nat
  | (.string bytes, d) => bytes.length + uptoBulk d + 1
  | (_, d) => uptoBulk d + 1
 end
def uptoSmall : (H : Type) → List (DataW H) → Bool := fun _ ds => decide (uptoBulkAll ds ≤ 1048576)
def OpenSpec.upto (s : _root_.Go.ChangeSpec) : _root_.Go.OpenSpec := { _root_.Go.OpenSpec.ofChange s with cond := some uptoSmall }

/-- 'laws.FnExactExamplePlayers', WHERE WHAT IT READS IS OF BULK AT MOST 1048576: true; the input reads as it did. -/
def fnExactExamplePlayersUptoRow : OpenClaim := { program := "ytkfnhbdloidfmaa", sum := "d148771b38d5720d11541acf212214d71efc1456446f70fda6afa8f95bb0b07a", func := "loop.example/g03004/laws.FnExactExamplePlayers", spec := "fnExactExamplePlayers", apart := false, narrowed := true }
def FnExactExamplePlayersUptoSaid : Prop := fnExactExamplePlayersUptoRow.holds Try.pinned (OpenSpec.upto fnExactExamplePlayersSpec)

/-- 'laws.FnSpliced', WHERE WHAT IT READS IS OF BULK AT MOST 1048576: true; the input reads as it did. -/
def fnSplicedUptoRow : OpenClaim := { program := "ytkfnhbdloidfmaa", sum := "d148771b38d5720d11541acf212214d71efc1456446f70fda6afa8f95bb0b07a", func := "loop.example/g03004/laws.FnSpliced", spec := "fnSpliced", unfollowed := true, recurses := true, apart := false, narrowed := true }
def FnSplicedUptoSaid : Prop := fnSplicedUptoRow.holds Try.pinned (OpenSpec.upto fnSplicedSpec)

/-- 'laws.FnOrdered', WHERE WHAT IT READS IS OF BULK AT MOST 1048576: true; the input reads as it did. -/
def fnOrderedUptoRow : OpenClaim := { program := "ytkfnhbdloidfmaa", sum := "d148771b38d5720d11541acf212214d71efc1456446f70fda6afa8f95bb0b07a", func := "loop.example/g03004/laws.FnOrdered", spec := "fnOrdered", unfollowed := true, recurses := true, apart := false, narrowed := true }
def FnOrderedUptoSaid : Prop := fnOrderedUptoRow.holds Try.pinned (OpenSpec.upto fnOrderedSpec)

/-- 'laws.FnExactBestOrder', WHERE WHAT IT READS IS OF BULK AT MOST 1048576: true; the input reads as it did. -/
def fnExactBestOrderUptoRow : OpenClaim := { program := "ytkfnhbdloidfmaa", sum := "d148771b38d5720d11541acf212214d71efc1456446f70fda6afa8f95bb0b07a", func := "loop.example/g03004/laws.FnExactBestOrder", spec := "fnExactBestOrder", unfollowed := true, recurses := true, apart := false, narrowed := true }
def FnExactBestOrderUptoSaid : Prop := fnExactBestOrderUptoRow.holds Try.pinned (OpenSpec.upto fnExactBestOrderSpec)

/-- 'laws.FnExactWriteAll', WHERE WHAT IT READS IS OF BULK AT MOST 1048576: true; the input reads as it did. -/
def fnExactWriteAllUptoRow : OpenClaim := { program := "ytkfnhbdloidfmaa", sum := "d148771b38d5720d11541acf212214d71efc1456446f70fda6afa8f95bb0b07a", func := "loop.example/g03004/laws.FnExactWriteAll", spec := "fnExactWriteAll", apart := false, narrowed := true }
def FnExactWriteAllUptoSaid : Prop := fnExactWriteAllUptoRow.holds Try.pinned (OpenSpec.upto fnExactWriteAllSpec)

/-- 'laws.FnExactDensestTick', WHERE WHAT IT READS IS OF BULK AT MOST 1048576: true; the input reads as it did. -/
def fnExactDensestTickUptoRow : OpenClaim := { program := "ytkfnhbdloidfmaa", sum := "d148771b38d5720d11541acf212214d71efc1456446f70fda6afa8f95bb0b07a", func := "loop.example/g03004/laws.FnExactDensestTick", spec := "fnExactDensestTick", recurses := true, apart := false, narrowed := true }
def FnExactDensestTickUptoSaid : Prop := fnExactDensestTickUptoRow.holds Try.pinned (OpenSpec.upto fnExactDensestTickSpec)

/-- 'laws.FnExactPartFor', WHERE WHAT IT READS IS OF BULK AT MOST 1048576: true; the input reads as it did. -/
def fnExactPartForUptoRow : OpenClaim := { program := "ytkfnhbdloidfmaa", sum := "d148771b38d5720d11541acf212214d71efc1456446f70fda6afa8f95bb0b07a", func := "loop.example/g03004/laws.FnExactPartFor", spec := "fnExactPartFor", unfollowed := true, recurses := true, apart := false, narrowed := true }
def FnExactPartForUptoSaid : Prop := fnExactPartForUptoRow.holds Try.pinned (OpenSpec.upto fnExactPartForSpec)

/-- 'laws.FnExactChordsIn', WHERE WHAT IT READS IS OF BULK AT MOST 1048576: true; the input reads as it did. -/
def fnExactChordsInUptoRow : OpenClaim := { program := "ytkfnhbdloidfmaa", sum := "d148771b38d5720d11541acf212214d71efc1456446f70fda6afa8f95bb0b07a", func := "loop.example/g03004/laws.FnExactChordsIn", spec := "fnExactChordsIn", recurses := true, apart := false, narrowed := true }
def FnExactChordsInUptoSaid : Prop := fnExactChordsInUptoRow.holds Try.pinned (OpenSpec.upto fnExactChordsInSpec)

/-- 'laws.FnExactNewOrchestra', WHERE WHAT IT READS IS OF BULK AT MOST 1048576: true; the input reads as it did. -/
def fnExactNewOrchestraUptoRow : OpenClaim := { program := "ytkfnhbdloidfmaa", sum := "d148771b38d5720d11541acf212214d71efc1456446f70fda6afa8f95bb0b07a", func := "loop.example/g03004/laws.FnExactNewOrchestra", spec := "fnExactNewOrchestra", unfollowed := true, recurses := true, apart := false, narrowed := true }
def FnExactNewOrchestraUptoSaid : Prop := fnExactNewOrchestraUptoRow.holds Try.pinned (OpenSpec.upto fnExactNewOrchestraSpec)

/-- 'laws.FnExactArePartsTrue', WHERE WHAT IT READS IS OF BULK AT MOST 1048576: true; the input reads as it did. -/
def fnExactArePartsTrueUptoRow : OpenClaim := { program := "ytkfnhbdloidfmaa", sum := "d148771b38d5720d11541acf212214d71efc1456446f70fda6afa8f95bb0b07a", func := "loop.example/g03004/laws.FnExactArePartsTrue", spec := "fnExactArePartsTrue", unfollowed := true, recurses := true, apart := false, narrowed := true }
def FnExactArePartsTrueUptoSaid : Prop := fnExactArePartsTrueUptoRow.holds Try.pinned (OpenSpec.upto fnExactArePartsTrueSpec)

end Rows
end Go.Proofs.Ytkfnhbdloidfmaa
