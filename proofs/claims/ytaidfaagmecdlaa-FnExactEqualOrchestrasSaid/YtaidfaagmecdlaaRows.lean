/-
  No cell of these rows narrows 'for every input' (looked for: loops, veiled, ifaces, maps, wideKeys, modest, calm, conditions, laid).
  DERIVED. THE GIVEN ROWS OF THIS SEAT. 9 by the template 'for every input the law returns true; each argument reads behind the call as it read before'; 0 by the template 'total and deterministic' (their statements: YtaidfaagmecdlaaTotals.lean).
  GIVEN WITH THE SEED: the statements are not yours to turn. If you find one false, say at which input.
  Laid BY PROGRAM, IN A SANDBOX (cutbox-rows.mjs): the forced cells as the released guide's own fill.sh prints them over the translation 4ed6c275b7aea59b… (all of the seat's roots in one cut). By AI agents, Wed Nov 11 2026. No macro, syntax, notation, axiom, sorry.
-/
import Derived.Test.YtaidfaagmecdlaaChecked
import GoSem.Claim
import GoSem.ClaimJoined
import GoSem.ClaimMapViews
import Derived.JoinedTies
import Derived.KernelRfl
namespace Go.Proofs.Ytaidfaagmecdlaa
/- THE CELL 'sum', in the pinned program and in every row, IS THE sha256 OF THE DUMP (.gsa) THAT YtaidfaagmecdlaaProg.lean LOADS. Nothing in Lean hashes anything: it is a label: what it is worth is what the hold of that sum in a sandbox is worth. -/
noncomputable def Try.pinned : Pinned := { name := "ytaidfaagmecdlaa", sum := "4ed6c275b7aea59b00cdd31327330a42ff81fb68a2bd2fd849a335d01a8b8cbe", checked := Try.checked }
namespace Rows
def none {H : Type} : Left H := { results := [], args := [] }

/-- 'laws.FnSpliced': WHATEVER THE INPUT: true; the input reads as it did. -/
def fnSplicedSpec : ChangeSpec := { name := "fnSpliced", fn := fun _ => fun
  | [d] => { results := [.lit (.bool true)], args := [d] }
  | _ => none }
def fnSplicedRow : OpenClaim := { program := "ytaidfaagmecdlaa", sum := "4ed6c275b7aea59b00cdd31327330a42ff81fb68a2bd2fd849a335d01a8b8cbe", func := "loop.example/g03004/laws.FnSpliced", spec := "fnSpliced", unfollowed := true, recurses := true, apart := false }
def FnSplicedSaid : Prop := fnSplicedRow.holds Try.pinned (OpenSpec.ofChange fnSplicedSpec)

/-- ITS FALSE NEIGHBOUR: 'it returns false'. Refute it at one input. -/
def fnSplicedWrong : ChangeSpec := { name := "fnSpliced", fn := fun _ => fun
  | [d] => { results := [.lit (.bool false)], args := [d] }
  | _ => none }
def FnSplicedWrongFalsely : Prop := fnSplicedRow.holds Try.pinned (OpenSpec.ofChange fnSplicedWrong)

/-- 'laws.FnOrdered': WHATEVER THE INPUT: true; the input reads as it did. -/
def fnOrderedSpec : ChangeSpec := { name := "fnOrdered", fn := fun _ => fun
  | [d] => { results := [.lit (.bool true)], args := [d] }
  | _ => none }
def fnOrderedRow : OpenClaim := { program := "ytaidfaagmecdlaa", sum := "4ed6c275b7aea59b00cdd31327330a42ff81fb68a2bd2fd849a335d01a8b8cbe", func := "loop.example/g03004/laws.FnOrdered", spec := "fnOrdered", unfollowed := true, recurses := true, apart := false }
def FnOrderedSaid : Prop := fnOrderedRow.holds Try.pinned (OpenSpec.ofChange fnOrderedSpec)

/-- ITS FALSE NEIGHBOUR: 'it returns false'. Refute it at one input. -/
def fnOrderedWrong : ChangeSpec := { name := "fnOrdered", fn := fun _ => fun
  | [d] => { results := [.lit (.bool false)], args := [d] }
  | _ => none }
def FnOrderedWrongFalsely : Prop := fnOrderedRow.holds Try.pinned (OpenSpec.ofChange fnOrderedWrong)

/-- 'laws.FnExactBestOrder': WHATEVER THE INPUT: true; the input reads as it did. -/
def fnExactBestOrderSpec : ChangeSpec := { name := "fnExactBestOrder", fn := fun _ => fun
  | [d] => { results := [.lit (.bool true)], args := [d] }
  | _ => none }
def fnExactBestOrderRow : OpenClaim := { program := "ytaidfaagmecdlaa", sum := "4ed6c275b7aea59b00cdd31327330a42ff81fb68a2bd2fd849a335d01a8b8cbe", func := "loop.example/g03004/laws.FnExactBestOrder", spec := "fnExactBestOrder", unfollowed := true, recurses := true, apart := false }
def FnExactBestOrderSaid : Prop := fnExactBestOrderRow.holds Try.pinned (OpenSpec.ofChange fnExactBestOrderSpec)

/-- ITS FALSE NEIGHBOUR: 'it returns false'. Refute it at one input. -/
def fnExactBestOrderWrong : ChangeSpec := { name := "fnExactBestOrder", fn := fun _ => fun
  | [d] => { results := [.lit (.bool false)], args := [d] }
  | _ => none }
def FnExactBestOrderWrongFalsely : Prop := fnExactBestOrderRow.holds Try.pinned (OpenSpec.ofChange fnExactBestOrderWrong)

/-- 'laws.FnExactWriteAll': WHATEVER THE INPUT: true; the input reads as it did. -/
def fnExactWriteAllSpec : ChangeSpec := { name := "fnExactWriteAll", fn := fun _ => fun
  | [d] => { results := [.lit (.bool true)], args := [d] }
  | _ => none }
def fnExactWriteAllRow : OpenClaim := { program := "ytaidfaagmecdlaa", sum := "4ed6c275b7aea59b00cdd31327330a42ff81fb68a2bd2fd849a335d01a8b8cbe", func := "loop.example/g03004/laws.FnExactWriteAll", spec := "fnExactWriteAll", apart := false }
def FnExactWriteAllSaid : Prop := fnExactWriteAllRow.holds Try.pinned (OpenSpec.ofChange fnExactWriteAllSpec)

/-- ITS FALSE NEIGHBOUR: 'it returns false'. Refute it at one input. -/
def fnExactWriteAllWrong : ChangeSpec := { name := "fnExactWriteAll", fn := fun _ => fun
  | [d] => { results := [.lit (.bool false)], args := [d] }
  | _ => none }
def FnExactWriteAllWrongFalsely : Prop := fnExactWriteAllRow.holds Try.pinned (OpenSpec.ofChange fnExactWriteAllWrong)

/-- 'laws.FnExactLeaderOf': WHATEVER THE INPUT: true; the input reads as it did. -/
def fnExactLeaderOfSpec : ChangeSpec := { name := "fnExactLeaderOf", fn := fun _ => fun
  | [d] => { results := [.lit (.bool true)], args := [d] }
  | _ => none }
def fnExactLeaderOfRow : OpenClaim := { program := "ytaidfaagmecdlaa", sum := "4ed6c275b7aea59b00cdd31327330a42ff81fb68a2bd2fd849a335d01a8b8cbe", func := "loop.example/g03004/laws.FnExactLeaderOf", spec := "fnExactLeaderOf", apart := false }
def FnExactLeaderOfSaid : Prop := fnExactLeaderOfRow.holds Try.pinned (OpenSpec.ofChange fnExactLeaderOfSpec)

/-- ITS FALSE NEIGHBOUR: 'it returns false'. Refute it at one input. -/
def fnExactLeaderOfWrong : ChangeSpec := { name := "fnExactLeaderOf", fn := fun _ => fun
  | [d] => { results := [.lit (.bool false)], args := [d] }
  | _ => none }
def FnExactLeaderOfWrongFalsely : Prop := fnExactLeaderOfRow.holds Try.pinned (OpenSpec.ofChange fnExactLeaderOfWrong)

/-- 'laws.FnExactAreSeated': WHATEVER THE INPUT: true; the input reads as it did. -/
def fnExactAreSeatedSpec : ChangeSpec := { name := "fnExactAreSeated", fn := fun _ => fun
  | [d] => { results := [.lit (.bool true)], args := [d] }
  | _ => none }
def fnExactAreSeatedRow : OpenClaim := { program := "ytaidfaagmecdlaa", sum := "4ed6c275b7aea59b00cdd31327330a42ff81fb68a2bd2fd849a335d01a8b8cbe", func := "loop.example/g03004/laws.FnExactAreSeated", spec := "fnExactAreSeated", unfollowed := true, recurses := true, apart := false }
def FnExactAreSeatedSaid : Prop := fnExactAreSeatedRow.holds Try.pinned (OpenSpec.ofChange fnExactAreSeatedSpec)

/-- ITS FALSE NEIGHBOUR: 'it returns false'. Refute it at one input. -/
def fnExactAreSeatedWrong : ChangeSpec := { name := "fnExactAreSeated", fn := fun _ => fun
  | [d] => { results := [.lit (.bool false)], args := [d] }
  | _ => none }
def FnExactAreSeatedWrongFalsely : Prop := fnExactAreSeatedRow.holds Try.pinned (OpenSpec.ofChange fnExactAreSeatedWrong)

/-- 'laws.FnExactBusiestPlayer': WHATEVER THE INPUT: true; the input reads as it did. -/
def fnExactBusiestPlayerSpec : ChangeSpec := { name := "fnExactBusiestPlayer", fn := fun _ => fun
  | [d] => { results := [.lit (.bool true)], args := [d] }
  | _ => none }
def fnExactBusiestPlayerRow : OpenClaim := { program := "ytaidfaagmecdlaa", sum := "4ed6c275b7aea59b00cdd31327330a42ff81fb68a2bd2fd849a335d01a8b8cbe", func := "loop.example/g03004/laws.FnExactBusiestPlayer", spec := "fnExactBusiestPlayer", unfollowed := true, recurses := true, apart := false }
def FnExactBusiestPlayerSaid : Prop := fnExactBusiestPlayerRow.holds Try.pinned (OpenSpec.ofChange fnExactBusiestPlayerSpec)

/-- ITS FALSE NEIGHBOUR: 'it returns false'. Refute it at one input. -/
def fnExactBusiestPlayerWrong : ChangeSpec := { name := "fnExactBusiestPlayer", fn := fun _ => fun
  | [d] => { results := [.lit (.bool false)], args := [d] }
  | _ => none }
def FnExactBusiestPlayerWrongFalsely : Prop := fnExactBusiestPlayerRow.holds Try.pinned (OpenSpec.ofChange fnExactBusiestPlayerWrong)

/-- 'laws.FnExactEqualOrchestras': WHATEVER THE INPUT: true; the input reads as it did. -/
def fnExactEqualOrchestrasSpec : ChangeSpec := { name := "fnExactEqualOrchestras", fn := fun _ => fun
  | [d1, d2] => { results := [.lit (.bool true)], args := [d1, d2] }
  | _ => none }
def fnExactEqualOrchestrasRow : OpenClaim := { program := "ytaidfaagmecdlaa", sum := "4ed6c275b7aea59b00cdd31327330a42ff81fb68a2bd2fd849a335d01a8b8cbe", func := "loop.example/g03004/laws.FnExactEqualOrchestras", spec := "fnExactEqualOrchestras", unfollowed := true, recurses := true, apart := false }
def FnExactEqualOrchestrasSaid : Prop := fnExactEqualOrchestrasRow.holds Try.pinned (OpenSpec.ofChange fnExactEqualOrchestrasSpec)

/-- ITS FALSE NEIGHBOUR: 'it returns false'. Refute it at one input. -/
def fnExactEqualOrchestrasWrong : ChangeSpec := { name := "fnExactEqualOrchestras", fn := fun _ => fun
  | [d1, d2] => { results := [.lit (.bool false)], args := [d1, d2] }
  | _ => none }
def FnExactEqualOrchestrasWrongFalsely : Prop := fnExactEqualOrchestrasRow.holds Try.pinned (OpenSpec.ofChange fnExactEqualOrchestrasWrong)

/-- 'laws.FnExactDensestTick': WHATEVER THE INPUT: true; the input reads as it did. -/
def fnExactDensestTickSpec : ChangeSpec := { name := "fnExactDensestTick", fn := fun _ => fun
  | [d] => { results := [.lit (.bool true)], args := [d] }
  | _ => none }
def fnExactDensestTickRow : OpenClaim := { program := "ytaidfaagmecdlaa", sum := "4ed6c275b7aea59b00cdd31327330a42ff81fb68a2bd2fd849a335d01a8b8cbe", func := "loop.example/g03004/laws.FnExactDensestTick", spec := "fnExactDensestTick", recurses := true, apart := false }
def FnExactDensestTickSaid : Prop := fnExactDensestTickRow.holds Try.pinned (OpenSpec.ofChange fnExactDensestTickSpec)

/-- ITS FALSE NEIGHBOUR: 'it returns false'. Refute it at one input. -/
def fnExactDensestTickWrong : ChangeSpec := { name := "fnExactDensestTick", fn := fun _ => fun
  | [d] => { results := [.lit (.bool false)], args := [d] }
  | _ => none }
def FnExactDensestTickWrongFalsely : Prop := fnExactDensestTickRow.holds Try.pinned (OpenSpec.ofChange fnExactDensestTickWrong)

/- THE SECOND FORM. 'bulk': how many values and letters a reading holds, each counted each time it is reached (what is shared counts as often as it is met; a slice's spare places count too). A statement '..UptoSaid' is the law's where the arguments, and the package variables that the reading takes, are together of bulk at most 1048576: NARROWER than '..Said'. Prove '..Said' where nothing that the law and all that it calls make is longer than what came in: it says more and counts as full. Else prove '..UptoSaid'. A law counts once. -/
mutual
def uptoBulk {H : Type} : DataW H → Nat
  | .lit (.string bytes) => bytes.length + 1
  | .lit _ => 1
  | .nil => 1
  | .ptr d => uptoBulk d + 1
  | .slice elems spare => uptoBulkAll elems + uptoBulkAll spare + 1
  | .agg parts => uptoBulkAll parts + 1
  | .iface _ d => uptoBulk d + 1
  | .map entries => uptoBulkEntries entries + 1
  | .held _ => 1
def uptoBulkAll {H : Type} : List (DataW H) → Nat
  | [] => 0
  | d :: r => uptoBulk d + uptoBulkAll r
def uptoBulkEntries {H : Type} : List (Lit × DataW H) → Nat
  | [] => 0
  | x :: r => uptoBulkEntry x + uptoBulkEntries r
def uptoBulkEntry {H : Type} : Lit × DataW H → Nat
  | (.string bytes, d) => bytes.length + uptoBulk d + 1
  | (_, d) => uptoBulk d + 1
 end
def uptoSmall : (H : Type) → List (DataW H) → Bool := fun _ ds => decide (uptoBulkAll ds ≤ 1048576)
def OpenSpec.upto (s : _root_.Go.ChangeSpec) : _root_.Go.OpenSpec := { _root_.Go.OpenSpec.ofChange s with cond := some uptoSmall }

/-- 'laws.FnSpliced', WHERE WHAT IT READS IS OF BULK AT MOST 1048576: true; the input reads as it did. -/
def fnSplicedUptoRow : OpenClaim := { program := "ytaidfaagmecdlaa", sum := "4ed6c275b7aea59b00cdd31327330a42ff81fb68a2bd2fd849a335d01a8b8cbe", func := "loop.example/g03004/laws.FnSpliced", spec := "fnSpliced", unfollowed := true, recurses := true, apart := false, narrowed := true }
def FnSplicedUptoSaid : Prop := fnSplicedUptoRow.holds Try.pinned (OpenSpec.upto fnSplicedSpec)

/-- 'laws.FnOrdered', WHERE WHAT IT READS IS OF BULK AT MOST 1048576: true; the input reads as it did. -/
def fnOrderedUptoRow : OpenClaim := { program := "ytaidfaagmecdlaa", sum := "4ed6c275b7aea59b00cdd31327330a42ff81fb68a2bd2fd849a335d01a8b8cbe", func := "loop.example/g03004/laws.FnOrdered", spec := "fnOrdered", unfollowed := true, recurses := true, apart := false, narrowed := true }
def FnOrderedUptoSaid : Prop := fnOrderedUptoRow.holds Try.pinned (OpenSpec.upto fnOrderedSpec)

/-- 'laws.FnExactBestOrder', WHERE WHAT IT READS IS OF BULK AT MOST 1048576: true; the input reads as it did. -/
def fnExactBestOrderUptoRow : OpenClaim := { program := "ytaidfaagmecdlaa", sum := "4ed6c275b7aea59b00cdd31327330a42ff81fb68a2bd2fd849a335d01a8b8cbe", func := "loop.example/g03004/laws.FnExactBestOrder", spec := "fnExactBestOrder", unfollowed := true, recurses := true, apart := false, narrowed := true }
def FnExactBestOrderUptoSaid : Prop := fnExactBestOrderUptoRow.holds Try.pinned (OpenSpec.upto fnExactBestOrderSpec)

/-- 'laws.FnExactWriteAll', WHERE WHAT IT READS IS OF BULK AT MOST 1048576: true; the input reads as it did. -/
def fnExactWriteAllUptoRow : OpenClaim := { program := "ytaidfaagmecdlaa", sum := "4ed6c275b7aea59b00cdd31327330a42ff81fb68a2bd2fd849a335d01a8b8cbe", func := "loop.example/g03004/laws.FnExactWriteAll", spec := "fnExactWriteAll", apart := false, narrowed := true }
def FnExactWriteAllUptoSaid : Prop := fnExactWriteAllUptoRow.holds Try.pinned (OpenSpec.upto fnExactWriteAllSpec)

/-- 'laws.FnExactLeaderOf', WHERE WHAT IT READS IS OF BULK AT MOST 1048576: true; the input reads as it did. -/
def fnExactLeaderOfUptoRow : OpenClaim := { program := "ytaidfaagmecdlaa", sum := "4ed6c275b7aea59b00cdd31327330a42ff81fb68a2bd2fd849a335d01a8b8cbe", func := "loop.example/g03004/laws.FnExactLeaderOf", spec := "fnExactLeaderOf", apart := false, narrowed := true }
def FnExactLeaderOfUptoSaid : Prop := fnExactLeaderOfUptoRow.holds Try.pinned (OpenSpec.upto fnExactLeaderOfSpec)

/-- 'laws.FnExactAreSeated', WHERE WHAT IT READS IS OF BULK AT MOST 1048576: true; the input reads as it did. -/
def fnExactAreSeatedUptoRow : OpenClaim := { program := "ytaidfaagmecdlaa", sum := "4ed6c275b7aea59b00cdd31327330a42ff81fb68a2bd2fd849a335d01a8b8cbe", func := "loop.example/g03004/laws.FnExactAreSeated", spec := "fnExactAreSeated", unfollowed := true, recurses := true, apart := false, narrowed := true }
def FnExactAreSeatedUptoSaid : Prop := fnExactAreSeatedUptoRow.holds Try.pinned (OpenSpec.upto fnExactAreSeatedSpec)

/-- 'laws.FnExactBusiestPlayer', WHERE WHAT IT READS IS OF BULK AT MOST 1048576: true; the input reads as it did. -/
def fnExactBusiestPlayerUptoRow : OpenClaim := { program := "ytaidfaagmecdlaa", sum := "4ed6c275b7aea59b00cdd31327330a42ff81fb68a2bd2fd849a335d01a8b8cbe", func := "loop.example/g03004/laws.FnExactBusiestPlayer", spec := "fnExactBusiestPlayer", unfollowed := true, recurses := true, apart := false, narrowed := true }
def FnExactBusiestPlayerUptoSaid : Prop := fnExactBusiestPlayerUptoRow.holds Try.pinned (OpenSpec.upto fnExactBusiestPlayerSpec)

/-- 'laws.FnExactEqualOrchestras', WHERE WHAT IT READS IS OF BULK AT MOST 1048576: true; the input reads as it did. -/
def fnExactEqualOrchestrasUptoRow : OpenClaim := { program := "ytaidfaagmecdlaa", sum := "4ed6c275b7aea59b00cdd31327330a42ff81fb68a2bd2fd849a335d01a8b8cbe", func := "loop.example/g03004/laws.FnExactEqualOrchestras", spec := "fnExactEqualOrchestras", unfollowed := true, recurses := true, apart := false, narrowed := true }
def FnExactEqualOrchestrasUptoSaid : Prop := fnExactEqualOrchestrasUptoRow.holds Try.pinned (OpenSpec.upto fnExactEqualOrchestrasSpec)

/-- 'laws.FnExactDensestTick', WHERE WHAT IT READS IS OF BULK AT MOST 1048576: true; the input reads as it did. -/
def fnExactDensestTickUptoRow : OpenClaim := { program := "ytaidfaagmecdlaa", sum := "4ed6c275b7aea59b00cdd31327330a42ff81fb68a2bd2fd849a335d01a8b8cbe", func := "loop.example/g03004/laws.FnExactDensestTick", spec := "fnExactDensestTick", recurses := true, apart := false, narrowed := true }
def FnExactDensestTickUptoSaid : Prop := fnExactDensestTickUptoRow.holds Try.pinned (OpenSpec.upto fnExactDensestTickSpec)

end Rows
end Go.Proofs.Ytaidfaagmecdlaa
