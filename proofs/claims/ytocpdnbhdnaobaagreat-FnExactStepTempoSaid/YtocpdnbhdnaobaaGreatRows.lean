/-
  No cell of these rows narrows 'for every input' (looked for: loops, veiled, ifaces, maps, wideKeys, modest, calm, conditions, laid).
  DERIVED. THE GIVEN ROWS OF THIS SEAT. 7 by the template 'for every input the law returns true; each argument reads behind the call as it read before'; 0 by the template 'total and deterministic' (their statements: YtocpdnbhdnaobaaGreatTotals.lean).
  GIVEN WITH THE SEED: the statements are not yours to turn. If you find one false, say at which input.
  Laid BY PROGRAM, IN A SANDBOX (cutbox-rows.mjs): the forced cells as the released guide's own fill.sh prints them over the translation b67468bc1070c818… (all of the seat's roots in one cut). By AI agents, Wed Nov 11 2026. No macro, syntax, notation, axiom, sorry.
-/
import Derived.Test.YtocpdnbhdnaobaaGreatChecked
import GoSem.Claim
import GoSem.ClaimJoined
import GoSem.ClaimMapViews
import Derived.JoinedTies
import Derived.KernelRfl
namespace Go.Proofs.YtocpdnbhdnaobaaGreat
/- THE CELL 'sum', in the pinned program and in every row, IS THE sha256 OF THE DUMP (.gsa) THAT YtocpdnbhdnaobaaGreatProg.lean LOADS. Nothing in Lean hashes anything: it is a label: what it is worth is what the hold of that sum in a sandbox is worth. -/
noncomputable def Tryz.pinned : Pinned := { name := "ytocpdnbhdnaobaagreat", sum := "b67468bc1070c818fde3a0ef0137b565af5333a5fad9b4ee08f93366d9a0d481", checked := Tryz.checked }
namespace Rows
def none {H : Type} : Left H := { results := [], args := [] }

/-- 'laws.FnExactStepTick': WHATEVER THE INPUT: true; the input reads as it did. -/
def fnExactStepTickSpec : ChangeSpec := { name := "fnExactStepTick", fn := fun _ => fun
  | [d1, d2] => { results := [.lit (.bool true)], args := [d1, d2] }
  | _ => none }
def fnExactStepTickRow : OpenClaim := { program := "ytocpdnbhdnaobaagreat", sum := "b67468bc1070c818fde3a0ef0137b565af5333a5fad9b4ee08f93366d9a0d481", func := "loop.example/g03004/laws.FnExactStepTick", spec := "fnExactStepTick", unfollowed := true, recurses := true, apart := false }
def FnExactStepTickSaid : Prop := fnExactStepTickRow.holds Tryz.pinned (OpenSpec.ofChange fnExactStepTickSpec)

/-- ITS FALSE NEIGHBOUR: 'it returns false'. Refute it at one input. -/
def fnExactStepTickWrong : ChangeSpec := { name := "fnExactStepTick", fn := fun _ => fun
  | [d1, d2] => { results := [.lit (.bool false)], args := [d1, d2] }
  | _ => none }
def FnExactStepTickWrongFalsely : Prop := fnExactStepTickRow.holds Tryz.pinned (OpenSpec.ofChange fnExactStepTickWrong)

/-- 'laws.FnExactStepErase': WHATEVER THE INPUT: true; the input reads as it did. -/
def fnExactStepEraseSpec : ChangeSpec := { name := "fnExactStepErase", fn := fun _ => fun
  | [d1, d2] => { results := [.lit (.bool true)], args := [d1, d2] }
  | _ => none }
def fnExactStepEraseRow : OpenClaim := { program := "ytocpdnbhdnaobaagreat", sum := "b67468bc1070c818fde3a0ef0137b565af5333a5fad9b4ee08f93366d9a0d481", func := "loop.example/g03004/laws.FnExactStepErase", spec := "fnExactStepErase", unfollowed := true, recurses := true, apart := false }
def FnExactStepEraseSaid : Prop := fnExactStepEraseRow.holds Tryz.pinned (OpenSpec.ofChange fnExactStepEraseSpec)

/-- ITS FALSE NEIGHBOUR: 'it returns false'. Refute it at one input. -/
def fnExactStepEraseWrong : ChangeSpec := { name := "fnExactStepErase", fn := fun _ => fun
  | [d1, d2] => { results := [.lit (.bool false)], args := [d1, d2] }
  | _ => none }
def FnExactStepEraseWrongFalsely : Prop := fnExactStepEraseRow.holds Tryz.pinned (OpenSpec.ofChange fnExactStepEraseWrong)

/-- 'laws.FnExactStepTempo': WHATEVER THE INPUT: true; the input reads as it did. -/
def fnExactStepTempoSpec : ChangeSpec := { name := "fnExactStepTempo", fn := fun _ => fun
  | [d1, d2] => { results := [.lit (.bool true)], args := [d1, d2] }
  | _ => none }
def fnExactStepTempoRow : OpenClaim := { program := "ytocpdnbhdnaobaagreat", sum := "b67468bc1070c818fde3a0ef0137b565af5333a5fad9b4ee08f93366d9a0d481", func := "loop.example/g03004/laws.FnExactStepTempo", spec := "fnExactStepTempo", inPlace := ["slices.overlaps[loop.example/g03004/impl.Tempo]"], unfollowed := true, recurses := true, apart := false }
def FnExactStepTempoSaid : Prop := fnExactStepTempoRow.holds Tryz.pinned (OpenSpec.ofChange fnExactStepTempoSpec)

/-- ITS FALSE NEIGHBOUR: 'it returns false'. Refute it at one input. -/
def fnExactStepTempoWrong : ChangeSpec := { name := "fnExactStepTempo", fn := fun _ => fun
  | [d1, d2] => { results := [.lit (.bool false)], args := [d1, d2] }
  | _ => none }
def FnExactStepTempoWrongFalsely : Prop := fnExactStepTempoRow.holds Tryz.pinned (OpenSpec.ofChange fnExactStepTempoWrong)

/-- 'laws.FnExactStepWrite': WHATEVER THE INPUT: true; the input reads as it did. -/
def fnExactStepWriteSpec : ChangeSpec := { name := "fnExactStepWrite", fn := fun _ => fun
  | [d1, d2] => { results := [.lit (.bool true)], args := [d1, d2] }
  | _ => none }
def fnExactStepWriteRow : OpenClaim := { program := "ytocpdnbhdnaobaagreat", sum := "b67468bc1070c818fde3a0ef0137b565af5333a5fad9b4ee08f93366d9a0d481", func := "loop.example/g03004/laws.FnExactStepWrite", spec := "fnExactStepWrite", inPlace := ["slices.overlaps[loop.example/g03004/impl.Event]"], unfollowed := true, recurses := true, apart := false }
def FnExactStepWriteSaid : Prop := fnExactStepWriteRow.holds Tryz.pinned (OpenSpec.ofChange fnExactStepWriteSpec)

/-- ITS FALSE NEIGHBOUR: 'it returns false'. Refute it at one input. -/
def fnExactStepWriteWrong : ChangeSpec := { name := "fnExactStepWrite", fn := fun _ => fun
  | [d1, d2] => { results := [.lit (.bool false)], args := [d1, d2] }
  | _ => none }
def FnExactStepWriteWrongFalsely : Prop := fnExactStepWriteRow.holds Tryz.pinned (OpenSpec.ofChange fnExactStepWriteWrong)

/-- 'laws.FnExactStepMark': WHATEVER THE INPUT: true; the input reads as it did. -/
def fnExactStepMarkSpec : ChangeSpec := { name := "fnExactStepMark", fn := fun _ => fun
  | [d1, d2, d3, d4, d5] => { results := [.lit (.bool true)], args := [d1, d2, d3, d4, d5] }
  | _ => none }
def fnExactStepMarkRow : OpenClaim := { program := "ytocpdnbhdnaobaagreat", sum := "b67468bc1070c818fde3a0ef0137b565af5333a5fad9b4ee08f93366d9a0d481", func := "loop.example/g03004/laws.FnExactStepMark", spec := "fnExactStepMark", inPlace := ["slices.overlaps[loop.example/g03004/impl.Mark]"], unfollowed := true, recurses := true, apart := false }
def FnExactStepMarkSaid : Prop := fnExactStepMarkRow.holds Tryz.pinned (OpenSpec.ofChange fnExactStepMarkSpec)

/-- ITS FALSE NEIGHBOUR: 'it returns false'. Refute it at one input. -/
def fnExactStepMarkWrong : ChangeSpec := { name := "fnExactStepMark", fn := fun _ => fun
  | [d1, d2, d3, d4, d5] => { results := [.lit (.bool false)], args := [d1, d2, d3, d4, d5] }
  | _ => none }
def FnExactStepMarkWrongFalsely : Prop := fnExactStepMarkRow.holds Tryz.pinned (OpenSpec.ofChange fnExactStepMarkWrong)

/-- 'laws.FnExactStepJoin': WHATEVER THE INPUT: true; the input reads as it did. -/
def fnExactStepJoinSpec : ChangeSpec := { name := "fnExactStepJoin", fn := fun _ => fun
  | [d1, d2] => { results := [.lit (.bool true)], args := [d1, d2] }
  | _ => none }
def fnExactStepJoinRow : OpenClaim := { program := "ytocpdnbhdnaobaagreat", sum := "b67468bc1070c818fde3a0ef0137b565af5333a5fad9b4ee08f93366d9a0d481", func := "loop.example/g03004/laws.FnExactStepJoin", spec := "fnExactStepJoin", inPlace := ["slices.overlaps[loop.example/g03004/impl.Player]"], unfollowed := true, recurses := true, apart := false }
def FnExactStepJoinSaid : Prop := fnExactStepJoinRow.holds Tryz.pinned (OpenSpec.ofChange fnExactStepJoinSpec)

/-- ITS FALSE NEIGHBOUR: 'it returns false'. Refute it at one input. -/
def fnExactStepJoinWrong : ChangeSpec := { name := "fnExactStepJoin", fn := fun _ => fun
  | [d1, d2] => { results := [.lit (.bool false)], args := [d1, d2] }
  | _ => none }
def FnExactStepJoinWrongFalsely : Prop := fnExactStepJoinRow.holds Tryz.pinned (OpenSpec.ofChange fnExactStepJoinWrong)

/-- 'laws.FnExactStepSeat': WHATEVER THE INPUT: true; the input reads as it did. -/
def fnExactStepSeatSpec : ChangeSpec := { name := "fnExactStepSeat", fn := fun _ => fun
  | [d1, d2] => { results := [.lit (.bool true)], args := [d1, d2] }
  | _ => none }
def fnExactStepSeatRow : OpenClaim := { program := "ytocpdnbhdnaobaagreat", sum := "b67468bc1070c818fde3a0ef0137b565af5333a5fad9b4ee08f93366d9a0d481", func := "loop.example/g03004/laws.FnExactStepSeat", spec := "fnExactStepSeat", unfollowed := true, recurses := true, apart := false }
def FnExactStepSeatSaid : Prop := fnExactStepSeatRow.holds Tryz.pinned (OpenSpec.ofChange fnExactStepSeatSpec)

/-- ITS FALSE NEIGHBOUR: 'it returns false'. Refute it at one input. -/
def fnExactStepSeatWrong : ChangeSpec := { name := "fnExactStepSeat", fn := fun _ => fun
  | [d1, d2] => { results := [.lit (.bool false)], args := [d1, d2] }
  | _ => none }
def FnExactStepSeatWrongFalsely : Prop := fnExactStepSeatRow.holds Tryz.pinned (OpenSpec.ofChange fnExactStepSeatWrong)

/- THE SECOND FORM. 'bulk': how many values and letters a reading holds, each counted each time it is reached (what is shared counts as often as it is met; a slice's spare places count too). A statement '..UptoSaid' is the law's where the arguments, and the package variables that the reading takes, are together of bulk at most 1048576: NARROWER than '..Said'. Prove '..Said' where nothing that the law and all that it calls make is longer than what came in: it says more and counts as full. Else prove '..UptoSaid'. A law counts once. -/
mutual
def uptoBulk {H : Type} : DataW H → Nat
  | .lit (.string bytes) => bytes.length + 1
  | .lit _ => 1
  | .nil => 1
  | .ptr d => uptoBulk d + 1
  | .slice elems spare => uptoBulkAll elems + uptoBulkAll spare + 1
  | .agg parts => uptoBulkAll parts + 1
  | .iface _ d => uptoBulk d + 1
  | .map entries => uptoBulkEntries entries + 1
  | .held _ => 1
def uptoBulkAll {H : Type} : List (DataW H) → Nat
  | [] => 0
  | d :: r => uptoBulk d + uptoBulkAll r
def uptoBulkEntries {H : Type} : List (Lit × DataW H) → Nat
  | [] => 0
  | x :: r => uptoBulkEntry x + uptoBulkEntries r
def uptoBulkEntry {H : Type} : Lit × DataW H → Nat
  | (.string bytes, d) => bytes.length + uptoBulk d + 1
  | (_, d) => uptoBulk d + 1
 end
def uptoSmall : (H : Type) → List (DataW H) → Bool := fun _ ds => decide (uptoBulkAll ds ≤ 1048576)
def OpenSpec.upto (s : _root_.Go.ChangeSpec) : _root_.Go.OpenSpec := { _root_.Go.OpenSpec.ofChange s with cond := some uptoSmall }

/-- 'laws.FnExactStepTick', WHERE WHAT IT READS IS OF BULK AT MOST 1048576: true; the input reads as it did. -/
def fnExactStepTickUptoRow : OpenClaim := { program := "ytocpdnbhdnaobaagreat", sum := "b67468bc1070c818fde3a0ef0137b565af5333a5fad9b4ee08f93366d9a0d481", func := "loop.example/g03004/laws.FnExactStepTick", spec := "fnExactStepTick", unfollowed := true, recurses := true, apart := false, narrowed := true }
def FnExactStepTickUptoSaid : Prop := fnExactStepTickUptoRow.holds Tryz.pinned (OpenSpec.upto fnExactStepTickSpec)

/-- 'laws.FnExactStepErase', WHERE WHAT IT READS IS OF BULK AT MOST 1048576: true; the input reads as it did. -/
def fnExactStepEraseUptoRow : OpenClaim := { program := "ytocpdnbhdnaobaagreat", sum := "b67468bc1070c818fde3a0ef0137b565af5333a5fad9b4ee08f93366d9a0d481", func := "loop.example/g03004/laws.FnExactStepErase", spec := "fnExactStepErase", unfollowed := true, recurses := true, apart := false, narrowed := true }
def FnExactStepEraseUptoSaid : Prop := fnExactStepEraseUptoRow.holds Tryz.pinned (OpenSpec.upto fnExactStepEraseSpec)

/-- 'laws.FnExactStepTempo', WHERE WHAT IT READS IS OF BULK AT MOST 1048576: true; the input reads as it did. -/
def fnExactStepTempoUptoRow : OpenClaim := { program := "ytocpdnbhdnaobaagreat", sum := "b67468bc1070c818fde3a0ef0137b565af5333a5fad9b4ee08f93366d9a0d481", func := "loop.example/g03004/laws.FnExactStepTempo", spec := "fnExactStepTempo", inPlace := ["slices.overlaps[loop.example/g03004/impl.Tempo]"], unfollowed := true, recurses := true, apart := false, narrowed := true }
def FnExactStepTempoUptoSaid : Prop := fnExactStepTempoUptoRow.holds Tryz.pinned (OpenSpec.upto fnExactStepTempoSpec)

/-- 'laws.FnExactStepWrite', WHERE WHAT IT READS IS OF BULK AT MOST 1048576: true; the input reads as it did. -/
def fnExactStepWriteUptoRow : OpenClaim := { program := "ytocpdnbhdnaobaagreat", sum := "b67468bc1070c818fde3a0ef0137b565af5333a5fad9b4ee08f93366d9a0d481", func := "loop.example/g03004/laws.FnExactStepWrite", spec := "fnExactStepWrite", inPlace := ["slices.overlaps[loop.example/g03004/impl.Event]"], unfollowed := true, recurses := true, apart := false, narrowed := true }
def FnExactStepWriteUptoSaid : Prop := fnExactStepWriteUptoRow.holds Tryz.pinned (OpenSpec.upto fnExactStepWriteSpec)

/-- 'laws.FnExactStepMark', WHERE WHAT IT READS IS OF BULK AT MOST 1048576: true; the input reads as it did. -/
def fnExactStepMarkUptoRow : OpenClaim := { program := "ytocpdnbhdnaobaagreat", sum := "b67468bc1070c818fde3a0ef0137b565af5333a5fad9b4ee08f93366d9a0d481", func := "loop.example/g03004/laws.FnExactStepMark", spec := "fnExactStepMark", inPlace := ["slices.overlaps[loop.example/g03004/impl.Mark]"], unfollowed := true, recurses := true, apart := false, narrowed := true }
def FnExactStepMarkUptoSaid : Prop := fnExactStepMarkUptoRow.holds Tryz.pinned (OpenSpec.upto fnExactStepMarkSpec)

/-- 'laws.FnExactStepJoin', WHERE WHAT IT READS IS OF BULK AT MOST 1048576: true; the input reads as it did. -/
def fnExactStepJoinUptoRow : OpenClaim := { program := "ytocpdnbhdnaobaagreat", sum := "b67468bc1070c818fde3a0ef0137b565af5333a5fad9b4ee08f93366d9a0d481", func := "loop.example/g03004/laws.FnExactStepJoin", spec := "fnExactStepJoin", inPlace := ["slices.overlaps[loop.example/g03004/impl.Player]"], unfollowed := true, recurses := true, apart := false, narrowed := true }
def FnExactStepJoinUptoSaid : Prop := fnExactStepJoinUptoRow.holds Tryz.pinned (OpenSpec.upto fnExactStepJoinSpec)

/-- 'laws.FnExactStepSeat', WHERE WHAT IT READS IS OF BULK AT MOST 1048576: true; the input reads as it did. -/
def fnExactStepSeatUptoRow : OpenClaim := { program := "ytocpdnbhdnaobaagreat", sum := "b67468bc1070c818fde3a0ef0137b565af5333a5fad9b4ee08f93366d9a0d481", func := "loop.example/g03004/laws.FnExactStepSeat", spec := "fnExactStepSeat", unfollowed := true, recurses := true, apart := false, narrowed := true }
def FnExactStepSeatUptoSaid : Prop := fnExactStepSeatUptoRow.holds Tryz.pinned (OpenSpec.upto fnExactStepSeatSpec)

end Rows
end Go.Proofs.YtocpdnbhdnaobaaGreat
