/-
  No cell of these rows narrows 'for every input' (looked for: loops, veiled, ifaces, maps, wideKeys, modest, calm, conditions, laid).
  DERIVED. THE GIVEN ROWS OF THIS SEAT. 7 by the template 'for every input the law returns true; each argument reads behind the call as it read before'; 0 by the template 'total and deterministic' (their statements: YtfjnjnmdlidpgaaTotals.lean).
  GIVEN WITH THE SEED: the statements are not yours to turn. If you find one false, say at which input.
  Laid BY PROGRAM, IN A SANDBOX (cutbox-rows.mjs): the forced cells as the released guide's own fill.sh prints them over the translation 66ea84640d428c97… (all of the seat's roots in one cut). By AI agents, Wed Nov 11 2026. No macro, syntax, notation, axiom, sorry.
-/
import Derived.Test.YtfjnjnmdlidpgaaChecked
import GoSem.Claim
import GoSem.ClaimJoined
import GoSem.ClaimMapViews
import Derived.JoinedTies
import Derived.KernelRfl
namespace Go.Proofs.Ytfjnjnmdlidpgaa
/- THE CELL 'sum', in the pinned program and in every row, IS THE sha256 OF THE DUMP (.gsa) THAT YtfjnjnmdlidpgaaProg.lean LOADS. Nothing in Lean hashes anything: it is a label: what it is worth is what the hold of that sum in a sandbox is worth. -/
noncomputable def Try.pinned : Pinned := { name := "ytfjnjnmdlidpgaa", sum := "66ea84640d428c97344010eb7d125ba8b45c4da07e08c42de196d0fd8e3b4992", checked := Try.checked }
namespace Rows
def none {H : Type} : Left H := { results := [], args := [] }

/-- 'laws.FnExactIsPlayable': WHATEVER THE INPUT: true; the input reads as it did. -/
def fnExactIsPlayableSpec : ChangeSpec := { name := "fnExactIsPlayable", fn := fun _ => fun
  | [d] => { results := [.lit (.bool true)], args := [d] }
  | _ => none }
def fnExactIsPlayableRow : OpenClaim := { program := "ytfjnjnmdlidpgaa", sum := "66ea84640d428c97344010eb7d125ba8b45c4da07e08c42de196d0fd8e3b4992", func := "loop.example/g03004/laws.FnExactIsPlayable", spec := "fnExactIsPlayable", unfollowed := true, recurses := true, apart := false }
def FnExactIsPlayableSaid : Prop := fnExactIsPlayableRow.holds Try.pinned (OpenSpec.ofChange fnExactIsPlayableSpec)

/-- ITS FALSE NEIGHBOUR: 'it returns false'. Refute it at one input. -/
def fnExactIsPlayableWrong : ChangeSpec := { name := "fnExactIsPlayable", fn := fun _ => fun
  | [d] => { results := [.lit (.bool false)], args := [d] }
  | _ => none }
def FnExactIsPlayableWrongFalsely : Prop := fnExactIsPlayableRow.holds Try.pinned (OpenSpec.ofChange fnExactIsPlayableWrong)

/-- 'laws.FnExactIsExact': WHATEVER THE INPUT: true; the input reads as it did. -/
def fnExactIsExactSpec : ChangeSpec := { name := "fnExactIsExact", fn := fun _ => fun
  | [d] => { results := [.lit (.bool true)], args := [d] }
  | _ => none }
def fnExactIsExactRow : OpenClaim := { program := "ytfjnjnmdlidpgaa", sum := "66ea84640d428c97344010eb7d125ba8b45c4da07e08c42de196d0fd8e3b4992", func := "loop.example/g03004/laws.FnExactIsExact", spec := "fnExactIsExact", unfollowed := true, recurses := true, apart := false }
def FnExactIsExactSaid : Prop := fnExactIsExactRow.holds Try.pinned (OpenSpec.ofChange fnExactIsExactSpec)

/-- ITS FALSE NEIGHBOUR: 'it returns false'. Refute it at one input. -/
def fnExactIsExactWrong : ChangeSpec := { name := "fnExactIsExact", fn := fun _ => fun
  | [d] => { results := [.lit (.bool false)], args := [d] }
  | _ => none }
def FnExactIsExactWrongFalsely : Prop := fnExactIsExactRow.holds Try.pinned (OpenSpec.ofChange fnExactIsExactWrong)

/-- 'laws.FnExactLongMs': WHATEVER THE INPUT: true; the input reads as it did. -/
def fnExactLongMsSpec : ChangeSpec := { name := "fnExactLongMs", fn := fun _ => fun
  | [d] => { results := [.lit (.bool true)], args := [d] }
  | _ => none }
def fnExactLongMsRow : OpenClaim := { program := "ytfjnjnmdlidpgaa", sum := "66ea84640d428c97344010eb7d125ba8b45c4da07e08c42de196d0fd8e3b4992", func := "loop.example/g03004/laws.FnExactLongMs", spec := "fnExactLongMs", apart := false }
def FnExactLongMsSaid : Prop := fnExactLongMsRow.holds Try.pinned (OpenSpec.ofChange fnExactLongMsSpec)

/-- ITS FALSE NEIGHBOUR: 'it returns false'. Refute it at one input. -/
def fnExactLongMsWrong : ChangeSpec := { name := "fnExactLongMs", fn := fun _ => fun
  | [d] => { results := [.lit (.bool false)], args := [d] }
  | _ => none }
def FnExactLongMsWrongFalsely : Prop := fnExactLongMsRow.holds Try.pinned (OpenSpec.ofChange fnExactLongMsWrong)

/-- 'laws.FnExactIsOrchestra': WHATEVER THE INPUT: true; the input reads as it did. -/
def fnExactIsOrchestraSpec : ChangeSpec := { name := "fnExactIsOrchestra", fn := fun _ => fun
  | [d] => { results := [.lit (.bool true)], args := [d] }
  | _ => none }
def fnExactIsOrchestraRow : OpenClaim := { program := "ytfjnjnmdlidpgaa", sum := "66ea84640d428c97344010eb7d125ba8b45c4da07e08c42de196d0fd8e3b4992", func := "loop.example/g03004/laws.FnExactIsOrchestra", spec := "fnExactIsOrchestra", unfollowed := true, recurses := true, apart := false }
def FnExactIsOrchestraSaid : Prop := fnExactIsOrchestraRow.holds Try.pinned (OpenSpec.ofChange fnExactIsOrchestraSpec)

/-- ITS FALSE NEIGHBOUR: 'it returns false'. Refute it at one input. -/
def fnExactIsOrchestraWrong : ChangeSpec := { name := "fnExactIsOrchestra", fn := fun _ => fun
  | [d] => { results := [.lit (.bool false)], args := [d] }
  | _ => none }
def FnExactIsOrchestraWrongFalsely : Prop := fnExactIsOrchestraRow.holds Try.pinned (OpenSpec.ofChange fnExactIsOrchestraWrong)

/-- 'laws.FnExactPartFor': WHATEVER THE INPUT: true; the input reads as it did. -/
def fnExactPartForSpec : ChangeSpec := { name := "fnExactPartFor", fn := fun _ => fun
  | [d1, d2] => { results := [.lit (.bool true)], args := [d1, d2] }
  | _ => none }
def fnExactPartForRow : OpenClaim := { program := "ytfjnjnmdlidpgaa", sum := "66ea84640d428c97344010eb7d125ba8b45c4da07e08c42de196d0fd8e3b4992", func := "loop.example/g03004/laws.FnExactPartFor", spec := "fnExactPartFor", unfollowed := true, recurses := true, apart := false }
def FnExactPartForSaid : Prop := fnExactPartForRow.holds Try.pinned (OpenSpec.ofChange fnExactPartForSpec)

/-- ITS FALSE NEIGHBOUR: 'it returns false'. Refute it at one input. -/
def fnExactPartForWrong : ChangeSpec := { name := "fnExactPartFor", fn := fun _ => fun
  | [d1, d2] => { results := [.lit (.bool false)], args := [d1, d2] }
  | _ => none }
def FnExactPartForWrongFalsely : Prop := fnExactPartForRow.holds Try.pinned (OpenSpec.ofChange fnExactPartForWrong)

/-- 'laws.FnExactChordsIn': WHATEVER THE INPUT: true; the input reads as it did. -/
def fnExactChordsInSpec : ChangeSpec := { name := "fnExactChordsIn", fn := fun _ => fun
  | [d] => { results := [.lit (.bool true)], args := [d] }
  | _ => none }
def fnExactChordsInRow : OpenClaim := { program := "ytfjnjnmdlidpgaa", sum := "66ea84640d428c97344010eb7d125ba8b45c4da07e08c42de196d0fd8e3b4992", func := "loop.example/g03004/laws.FnExactChordsIn", spec := "fnExactChordsIn", recurses := true, apart := false }
def FnExactChordsInSaid : Prop := fnExactChordsInRow.holds Try.pinned (OpenSpec.ofChange fnExactChordsInSpec)

/-- ITS FALSE NEIGHBOUR: 'it returns false'. Refute it at one input. -/
def fnExactChordsInWrong : ChangeSpec := { name := "fnExactChordsIn", fn := fun _ => fun
  | [d] => { results := [.lit (.bool false)], args := [d] }
  | _ => none }
def FnExactChordsInWrongFalsely : Prop := fnExactChordsInRow.holds Try.pinned (OpenSpec.ofChange fnExactChordsInWrong)

/-- 'laws.FnExactNewOrchestra': WHATEVER THE INPUT: true; the input reads as it did. -/
def fnExactNewOrchestraSpec : ChangeSpec := { name := "fnExactNewOrchestra", fn := fun _ => fun
  | [d1, d2] => { results := [.lit (.bool true)], args := [d1, d2] }
  | _ => none }
def fnExactNewOrchestraRow : OpenClaim := { program := "ytfjnjnmdlidpgaa", sum := "66ea84640d428c97344010eb7d125ba8b45c4da07e08c42de196d0fd8e3b4992", func := "loop.example/g03004/laws.FnExactNewOrchestra", spec := "fnExactNewOrchestra", unfollowed := true, recurses := true, apart := false }
def FnExactNewOrchestraSaid : Prop := fnExactNewOrchestraRow.holds Try.pinned (OpenSpec.ofChange fnExactNewOrchestraSpec)

/-- ITS FALSE NEIGHBOUR: 'it returns false'. Refute it at one input. -/
def fnExactNewOrchestraWrong : ChangeSpec := { name := "fnExactNewOrchestra", fn := fun _ => fun
  | [d1, d2] => { results := [.lit (.bool false)], args := [d1, d2] }
  | _ => none }
def FnExactNewOrchestraWrongFalsely : Prop := fnExactNewOrchestraRow.holds Try.pinned (OpenSpec.ofChange fnExactNewOrchestraWrong)

/- THE SECOND FORM. 'bulk': how many values and letters a reading holds, each counted each time it is reached (what is shared counts as often as it is met; a slice's spare places count too). A statement '..UptoSaid' is the law's where the arguments, and the package variables that the reading takes, are together of bulk at most 1048576: NARROWER than '..Said'. Prove '..Said' where nothing that the law and all that it calls make is longer than what came in: it says more and counts as full. Else prove '..UptoSaid'. A law counts once. -/
mutual
def uptoBulk {H : Type} : DataW H → Nat
  | .lit (.string bytes) => bytes.length + 1
  | .lit _ => 1
  | .nil => 1
  | .ptr d => uptoBulk d + 1
  | .slice elems spare => uptoBulkAll elems + uptoBulkAll spare + 1
  | .agg parts => uptoBulkAll parts + 1
  | .iface _ d => uptoBulk d + 1
  | .map entries => uptoBulkEntries entries + 1
  | .held _ => 1
def uptoBulkAll {H : Type} : List (DataW H) → Nat
  | [] => 0
  | d :: r => uptoBulk d + uptoBulkAll r
def uptoBulkEntries {H : Type} : List (Lit × DataW H) → Nat
  | [] => 0
  | x :: r => uptoBulkEntry x + uptoBulkEntries r
def uptoBulkEntry {H : Type} : Lit × DataW H → Nat
  | (.string bytes, d) => bytes.length + uptoBulk d + 1
  | (_, d) => uptoBulk d + 1
 end
def uptoSmall : (H : Type) → List (DataW H) → Bool := fun _ ds => decide (uptoBulkAll ds ≤ 1048576)
def OpenSpec.upto (s : _root_.Go.ChangeSpec) : _root_.Go.OpenSpec := { _root_.Go.OpenSpec.ofChange s with cond := some uptoSmall }

/-- 'laws.FnExactIsPlayable', WHERE WHAT IT READS IS OF BULK AT MOST 1048576: true; the input reads as it did. -/
def fnExactIsPlayableUptoRow : OpenClaim := { program := "ytfjnjnmdlidpgaa", sum := "66ea84640d428c97344010eb7d125ba8b45c4da07e08c42de196d0fd8e3b4992", func := "loop.example/g03004/laws.FnExactIsPlayable", spec := "fnExactIsPlayable", unfollowed := true, recurses := true, apart := false, narrowed := true }
def FnExactIsPlayableUptoSaid : Prop := fnExactIsPlayableUptoRow.holds Try.pinned (OpenSpec.upto fnExactIsPlayableSpec)

/-- 'laws.FnExactIsExact', WHERE WHAT IT READS IS OF BULK AT MOST 1048576: true; the input reads as it did. -/
def fnExactIsExactUptoRow : OpenClaim := { program := "ytfjnjnmdlidpgaa", sum := "66ea84640d428c97344010eb7d125ba8b45c4da07e08c42de196d0fd8e3b4992", func := "loop.example/g03004/laws.FnExactIsExact", spec := "fnExactIsExact", unfollowed := true, recurses := true, apart := false, narrowed := true }
def FnExactIsExactUptoSaid : Prop := fnExactIsExactUptoRow.holds Try.pinned (OpenSpec.upto fnExactIsExactSpec)

/-- 'laws.FnExactLongMs', WHERE WHAT IT READS IS OF BULK AT MOST 1048576: true; the input reads as it did. -/
def fnExactLongMsUptoRow : OpenClaim := { program := "ytfjnjnmdlidpgaa", sum := "66ea84640d428c97344010eb7d125ba8b45c4da07e08c42de196d0fd8e3b4992", func := "loop.example/g03004/laws.FnExactLongMs", spec := "fnExactLongMs", apart := false, narrowed := true }
def FnExactLongMsUptoSaid : Prop := fnExactLongMsUptoRow.holds Try.pinned (OpenSpec.upto fnExactLongMsSpec)

/-- 'laws.FnExactIsOrchestra', WHERE WHAT IT READS IS OF BULK AT MOST 1048576: true; the input reads as it did. -/
def fnExactIsOrchestraUptoRow : OpenClaim := { program := "ytfjnjnmdlidpgaa", sum := "66ea84640d428c97344010eb7d125ba8b45c4da07e08c42de196d0fd8e3b4992", func := "loop.example/g03004/laws.FnExactIsOrchestra", spec := "fnExactIsOrchestra", unfollowed := true, recurses := true, apart := false, narrowed := true }
def FnExactIsOrchestraUptoSaid : Prop := fnExactIsOrchestraUptoRow.holds Try.pinned (OpenSpec.upto fnExactIsOrchestraSpec)

/-- 'laws.FnExactPartFor', WHERE WHAT IT READS IS OF BULK AT MOST 1048576: true; the input reads as it did. -/
def fnExactPartForUptoRow : OpenClaim := { program := "ytfjnjnmdlidpgaa", sum := "66ea84640d428c97344010eb7d125ba8b45c4da07e08c42de196d0fd8e3b4992", func := "loop.example/g03004/laws.FnExactPartFor", spec := "fnExactPartFor", unfollowed := true, recurses := true, apart := false, narrowed := true }
def FnExactPartForUptoSaid : Prop := fnExactPartForUptoRow.holds Try.pinned (OpenSpec.upto fnExactPartForSpec)

/-- 'laws.FnExactChordsIn', WHERE WHAT IT READS IS OF BULK AT MOST 1048576: true; the input reads as it did. -/
def fnExactChordsInUptoRow : OpenClaim := { program := "ytfjnjnmdlidpgaa", sum := "66ea84640d428c97344010eb7d125ba8b45c4da07e08c42de196d0fd8e3b4992", func := "loop.example/g03004/laws.FnExactChordsIn", spec := "fnExactChordsIn", recurses := true, apart := false, narrowed := true }
def FnExactChordsInUptoSaid : Prop := fnExactChordsInUptoRow.holds Try.pinned (OpenSpec.upto fnExactChordsInSpec)

/-- 'laws.FnExactNewOrchestra', WHERE WHAT IT READS IS OF BULK AT MOST 1048576: true; the input reads as it did. -/
def fnExactNewOrchestraUptoRow : OpenClaim := { program := "ytfjnjnmdlidpgaa", sum := "66ea84640d428c97344010eb7d125ba8b45c4da07e08c42de196d0fd8e3b4992", func := "loop.example/g03004/laws.FnExactNewOrchestra", spec := "fnExactNewOrchestra", unfollowed := true, recurses := true, apart := false, narrowed := true }
def FnExactNewOrchestraUptoSaid : Prop := fnExactNewOrchestraUptoRow.holds Try.pinned (OpenSpec.upto fnExactNewOrchestraSpec)

end Rows
end Go.Proofs.Ytfjnjnmdlidpgaa
