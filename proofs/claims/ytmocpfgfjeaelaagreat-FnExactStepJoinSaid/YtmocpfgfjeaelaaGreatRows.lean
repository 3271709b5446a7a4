/-
  No cell of these rows narrows 'for every input' (looked for: loops, veiled, ifaces, maps, wideKeys, modest, calm, conditions, laid).
  DERIVED. THE GIVEN ROWS OF THIS SEAT. 5 by the template 'for every input the law returns true; each argument reads behind the call as it read before'; 0 by the template 'total and deterministic' (their statements: YtmocpfgfjeaelaaGreatTotals.lean).
  GIVEN WITH THE SEED: the statements are not yours to turn. If you find one false, say at which input.
  Laid BY PROGRAM, IN A SANDBOX (cutbox-rows.mjs): the forced cells as the released guide's own fill.sh prints them over the translation 1308a228ee4c5214… (all of the seat's roots in one cut). By AI agents, Wed Nov 11 2026. No macro, syntax, notation, axiom, sorry.
-/
import Derived.Test.YtmocpfgfjeaelaaGreatChecked
import GoSem.Claim
import GoSem.ClaimJoined
import GoSem.ClaimMapViews
import Derived.JoinedTies
import Derived.KernelRfl
namespace Go.Proofs.YtmocpfgfjeaelaaGreat
/- THE CELL 'sum', in the pinned program and in every row, IS THE sha256 OF THE DUMP (.gsa) THAT YtmocpfgfjeaelaaGreatProg.lean LOADS. Nothing in Lean hashes anything: it is a label: what it is worth is what the hold of that sum in a sandbox is worth. -/
noncomputable def Tryz.pinned : Pinned := { name := "ytmocpfgfjeaelaagreat", sum := "1308a228ee4c5214c94ce4d3425d7e11b8fcd68c48222f0fef70b1cfac96c123", checked := Tryz.checked }
namespace Rows
def none {H : Type} : Left H := { results := [], args := [] }

/-- 'laws.FnTop': WHATEVER THE INPUT: true; the input reads as it did. -/
def fnTopSpec : ChangeSpec := { name := "fnTop", fn := fun _ => fun
  | [d] => { results := [.lit (.bool true)], args := [d] }
  | _ => none }
def fnTopRow : OpenClaim := { program := "ytmocpfgfjeaelaagreat", sum := "1308a228ee4c5214c94ce4d3425d7e11b8fcd68c48222f0fef70b1cfac96c123", func := "loop.example/g03004/laws.FnTop", spec := "fnTop", inPlace := ["slices.overlaps[loop.example/g03004/impl.Event]", "slices.overlaps[loop.example/g03004/impl.Tempo]", "slices.overlaps[loop.example/g03004/impl.Player]", "slices.overlaps[loop.example/g03004/impl.Mark]"], unfollowed := true, recurses := true, apart := false }
def FnTopSaid : Prop := fnTopRow.holds Tryz.pinned (OpenSpec.ofChange fnTopSpec)

/-- ITS FALSE NEIGHBOUR: 'it returns false'. Refute it at one input. -/
def fnTopWrong : ChangeSpec := { name := "fnTop", fn := fun _ => fun
  | [d] => { results := [.lit (.bool false)], args := [d] }
  | _ => none }
def FnTopWrongFalsely : Prop := fnTopRow.holds Tryz.pinned (OpenSpec.ofChange fnTopWrong)

/-- 'laws.FnAudited': WHATEVER THE INPUT: true; the input reads as it did. -/
def fnAuditedSpec : ChangeSpec := { name := "fnAudited", fn := fun _ => fun
  | [d] => { results := [.lit (.bool true)], args := [d] }
  | _ => none }
def fnAuditedRow : OpenClaim := { program := "ytmocpfgfjeaelaagreat", sum := "1308a228ee4c5214c94ce4d3425d7e11b8fcd68c48222f0fef70b1cfac96c123", func := "loop.example/g03004/laws.FnAudited", spec := "fnAudited", unfollowed := true, recurses := true, apart := false }
def FnAuditedSaid : Prop := fnAuditedRow.holds Tryz.pinned (OpenSpec.ofChange fnAuditedSpec)

/-- ITS FALSE NEIGHBOUR: 'it returns false'. Refute it at one input. -/
def fnAuditedWrong : ChangeSpec := { name := "fnAudited", fn := fun _ => fun
  | [d] => { results := [.lit (.bool false)], args := [d] }
  | _ => none }
def FnAuditedWrongFalsely : Prop := fnAuditedRow.holds Tryz.pinned (OpenSpec.ofChange fnAuditedWrong)

/-- 'laws.FnSteps': WHATEVER THE INPUT: true; the input reads as it did. -/
def fnStepsSpec : ChangeSpec := { name := "fnSteps", fn := fun _ => fun
  | [d] => { results := [.lit (.bool true)], args := [d] }
  | _ => none }
def fnStepsRow : OpenClaim := { program := "ytmocpfgfjeaelaagreat", sum := "1308a228ee4c5214c94ce4d3425d7e11b8fcd68c48222f0fef70b1cfac96c123", func := "loop.example/g03004/laws.FnSteps", spec := "fnSteps", inPlace := ["slices.overlaps[loop.example/g03004/impl.Event]", "slices.overlaps[loop.example/g03004/impl.Tempo]", "slices.overlaps[loop.example/g03004/impl.Player]", "slices.overlaps[loop.example/g03004/impl.Mark]"], unfollowed := true, recurses := true, apart := false }
def FnStepsSaid : Prop := fnStepsRow.holds Tryz.pinned (OpenSpec.ofChange fnStepsSpec)

/-- ITS FALSE NEIGHBOUR: 'it returns false'. Refute it at one input. -/
def fnStepsWrong : ChangeSpec := { name := "fnSteps", fn := fun _ => fun
  | [d] => { results := [.lit (.bool false)], args := [d] }
  | _ => none }
def FnStepsWrongFalsely : Prop := fnStepsRow.holds Tryz.pinned (OpenSpec.ofChange fnStepsWrong)

/-- 'laws.FnExactStepJoin': WHATEVER THE INPUT: true; the input reads as it did. -/
def fnExactStepJoinSpec : ChangeSpec := { name := "fnExactStepJoin", fn := fun _ => fun
  | [d1, d2] => { results := [.lit (.bool true)], args := [d1, d2] }
  | _ => none }
def fnExactStepJoinRow : OpenClaim := { program := "ytmocpfgfjeaelaagreat", sum := "1308a228ee4c5214c94ce4d3425d7e11b8fcd68c48222f0fef70b1cfac96c123", func := "loop.example/g03004/laws.FnExactStepJoin", spec := "fnExactStepJoin", inPlace := ["slices.overlaps[loop.example/g03004/impl.Player]"], unfollowed := true, recurses := true, apart := false }
def FnExactStepJoinSaid : Prop := fnExactStepJoinRow.holds Tryz.pinned (OpenSpec.ofChange fnExactStepJoinSpec)

/-- ITS FALSE NEIGHBOUR: 'it returns false'. Refute it at one input. -/
def fnExactStepJoinWrong : ChangeSpec := { name := "fnExactStepJoin", fn := fun _ => fun
  | [d1, d2] => { results := [.lit (.bool false)], args := [d1, d2] }
  | _ => none }
def FnExactStepJoinWrongFalsely : Prop := fnExactStepJoinRow.holds Tryz.pinned (OpenSpec.ofChange fnExactStepJoinWrong)

/-- 'laws.FnHappened': WHATEVER THE INPUT: true; the input reads as it did. -/
def fnHappenedSpec : ChangeSpec := { name := "fnHappened", fn := fun _ => fun
  | [d] => { results := [.lit (.bool true)], args := [d] }
  | _ => none }
def fnHappenedRow : OpenClaim := { program := "ytmocpfgfjeaelaagreat", sum := "1308a228ee4c5214c94ce4d3425d7e11b8fcd68c48222f0fef70b1cfac96c123", func := "loop.example/g03004/laws.FnHappened", spec := "fnHappened", inPlace := ["slices.overlaps[loop.example/g03004/impl.Event]", "slices.overlaps[loop.example/g03004/impl.Tempo]", "slices.overlaps[loop.example/g03004/impl.Player]", "slices.overlaps[loop.example/g03004/impl.Mark]"], unfollowed := true, recurses := true, apart := false }
def FnHappenedSaid : Prop := fnHappenedRow.holds Tryz.pinned (OpenSpec.ofChange fnHappenedSpec)

/-- ITS FALSE NEIGHBOUR: 'it returns false'. Refute it at one input. -/
def fnHappenedWrong : ChangeSpec := { name := "fnHappened", fn := fun _ => fun
  | [d] => { results := [.lit (.bool false)], args := [d] }
  | _ => none }
def FnHappenedWrongFalsely : Prop := fnHappenedRow.holds Tryz.pinned (OpenSpec.ofChange fnHappenedWrong)

/- THE SECOND FORM. 'bulk': how many values and letters a reading holds, each counted each time it is reached (what is shared counts as often as it is met; a slice's spare places count too). A statement '..UptoSaid' is the law's where the arguments, and the package variables that the reading takes, are together of bulk at most 1048576: NARROWER than '..Said'. Prove '..Said' where nothing that the law and all that it calls make is longer than what came in: it says more and counts as full. Else prove '..UptoSaid'. A law counts once. -/
mutual
def uptoBulk {H : Type} : DataW H → Nat
  | .lit (.string bytes) => bytes.length + 1
  | .lit _ => 1
  | .nil => 1
  | .ptr d => uptoBulk d + 1
  | .slice elems spare => uptoBulkAll elems + uptoBulkAll spare + 1
  | .agg parts => uptoBulkAll parts + 1
  | .iface _ d => uptoBulk d + 1
  | .map entries => uptoBulkEntries entries + 1
  | .held _ => 1
def uptoBulkAll {H : Type} : List (DataW H) → Nat
  | [] => 0
  | d :: r => uptoBulk d + uptoBulkAll r
def uptoBulkEntries {H : Type} : List (Lit × DataW H) → Nat
  | [] => 0
  | x :: r => uptoBulkEntry x + uptoBulkEntries r
def uptoBulkEntry {H : Type} : Lit × DataW H → Nat
  | (.string bytes, d) => bytes.length + uptoBulk d + 1
  | (_, d) => uptoBulk d + 1
 end
def uptoSmall : (H : Type) → List (DataW H) → Bool := fun _ ds => decide (uptoBulkAll ds ≤ 1048576)
def OpenSpec.upto (s : _root_.Go.ChangeSpec) : _root_.Go.OpenSpec := { _root_.Go.OpenSpec.ofChange s with cond := some uptoSmall }

/-- 'laws.FnTop', WHERE WHAT IT READS IS OF BULK AT MOST 1048576: true; the input reads as it did. -/
def fnTopUptoRow : OpenClaim := { program := "ytmocpfgfjeaelaagreat", sum := "1308a228ee4c5214c94ce4d3425d7e11b8fcd68c48222f0fef70b1cfac96c123", func := "loop.example/g03004/laws.FnTop", spec := "fnTop", inPlace := ["slices.overlaps[loop.example/g03004/impl.Event]", "slices.overlaps[loop.example/g03004/impl.Tempo]", "slices.overlaps[loop.example/g03004/impl.Player]", "slices.overlaps[loop.example/g03004/impl.Mark]"], unfollowed := true, recurses := true, apart := false, narrowed := true }
def FnTopUptoSaid : Prop := fnTopUptoRow.holds Tryz.pinned (OpenSpec.upto fnTopSpec)

/-- 'laws.FnAudited', WHERE WHAT IT READS IS OF BULK AT MOST 1048576: true; the input reads as it did. -/
def fnAuditedUptoRow : OpenClaim := { program := "ytmocpfgfjeaelaagreat", sum := "1308a228ee4c5214c94ce4d3425d7e11b8fcd68c48222f0fef70b1cfac96c123", func := "loop.example/g03004/laws.FnAudited", spec := "fnAudited", unfollowed := true, recurses := true, apart := false, narrowed := true }
def FnAuditedUptoSaid : Prop := fnAuditedUptoRow.holds Tryz.pinned (OpenSpec.upto fnAuditedSpec)

/-- 'laws.FnSteps', WHERE WHAT IT READS IS OF BULK AT MOST 1048576: true; the input reads as it did. -/
def fnStepsUptoRow : OpenClaim := { program := "ytmocpfgfjeaelaagreat", sum := "1308a228ee4c5214c94ce4d3425d7e11b8fcd68c48222f0fef70b1cfac96c123", func := "loop.example/g03004/laws.FnSteps", spec := "fnSteps", inPlace := ["slices.overlaps[loop.example/g03004/impl.Event]", "slices.overlaps[loop.example/g03004/impl.Tempo]", "slices.overlaps[loop.example/g03004/impl.Player]", "slices.overlaps[loop.example/g03004/impl.Mark]"], unfollowed := true, recurses := true, apart := false, narrowed := true }
def FnStepsUptoSaid : Prop := fnStepsUptoRow.holds Tryz.pinned (OpenSpec.upto fnStepsSpec)

/-- 'laws.FnExactStepJoin', WHERE WHAT IT READS IS OF BULK AT MOST 1048576: true; the input reads as it did. -/
def fnExactStepJoinUptoRow : OpenClaim := { program := "ytmocpfgfjeaelaagreat", sum := "1308a228ee4c5214c94ce4d3425d7e11b8fcd68c48222f0fef70b1cfac96c123", func := "loop.example/g03004/laws.FnExactStepJoin", spec := "fnExactStepJoin", inPlace := ["slices.overlaps[loop.example/g03004/impl.Player]"], unfollowed := true, recurses := true, apart := false, narrowed := true }
def FnExactStepJoinUptoSaid : Prop := fnExactStepJoinUptoRow.holds Tryz.pinned (OpenSpec.upto fnExactStepJoinSpec)

/-- 'laws.FnHappened', WHERE WHAT IT READS IS OF BULK AT MOST 1048576: true; the input reads as it did. -/
def fnHappenedUptoRow : OpenClaim := { program := "ytmocpfgfjeaelaagreat", sum := "1308a228ee4c5214c94ce4d3425d7e11b8fcd68c48222f0fef70b1cfac96c123", func := "loop.example/g03004/laws.FnHappened", spec := "fnHappened", inPlace := ["slices.overlaps[loop.example/g03004/impl.Event]", "slices.overlaps[loop.example/g03004/impl.Tempo]", "slices.overlaps[loop.example/g03004/impl.Player]", "slices.overlaps[loop.example/g03004/impl.Mark]"], unfollowed := true, recurses := true, apart := false, narrowed := true }
def FnHappenedUptoSaid : Prop := fnHappenedUptoRow.holds Tryz.pinned (OpenSpec.upto fnHappenedSpec)

end Rows
end Go.Proofs.YtmocpfgfjeaelaaGreat
