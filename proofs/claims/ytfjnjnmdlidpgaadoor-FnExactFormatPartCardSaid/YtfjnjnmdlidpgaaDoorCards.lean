/-
  DERIVED. GIVEN WITH THE SEED: THE CARDS: each row of YtfjnjnmdlidpgaaDoorRows.lean that lists a variable, with what it lists TIED to the program's text (the seventh form; the later family's looks); each row that meets fmt, with fmt's text TOLD by the authors' own Lean function (tested against real Go, not proved from fmt's source: count such statements apart). THE CARD IS WHAT COUNTS. Prove the row's statement (the work); the ties are given (YtfjnjnmdlidpgaaDoorTie.lean); close each card by the builder's one call (the guide's Derived/Test/ToyasCard.lean, 'card_holds'). Laid BY PROGRAM, IN A SANDBOX (cutbox-door.mjs). By AI agents, Wed Nov 11 2026. No macro, syntax, notation, axiom, sorry.
-/
import Derived.Test.YtfjnjnmdlidpgaaDoorRows
import GoSem.ClaimSeven
namespace Go.Proofs.YtfjnjnmdlidpgaaDoor
namespace Rows

/-- THE TIED CARD OF 'laws.FnExactFormatScore'. -/
def fnExactFormatScoreCard : Claim7 := { stood := { row := fnExactFormatScoreRow, standIns := [], harness := (true, "06d08cb90edeffce91de9a78eb01f1747385af73a4c98ceea21aee03015fbc05"), looks := false }, kinds := [], alts := [], laidByText := true, laidKinds := [.data, .data, .data], laidTests := true, laidLooks := .later }
def FnExactFormatScoreCardSaid : Prop := Claim7.holds Tryd.pinned (.plain (OpenSpec.ofChange fnExactFormatScoreSpec)) fnExactFormatScoreCard

/-- THE TIED CARD OF 'laws.FnExactFormatPart'. -/
def fnExactFormatPartCard : Claim7 := { stood := { row := fnExactFormatPartRow, standIns := [], harness := (true, "06d08cb90edeffce91de9a78eb01f1747385af73a4c98ceea21aee03015fbc05"), looks := false }, kinds := [], alts := [], laidByText := true, laidKinds := [.data, .data, .data], laidTests := true, laidLooks := .later }
def FnExactFormatPartCardSaid : Prop := Claim7.holds Tryd.pinned (.plain (OpenSpec.ofChange fnExactFormatPartSpec)) fnExactFormatPartCard

/-- THE TIED CARD OF 'laws.FnExactFormatOrchestra'. -/
def fnExactFormatOrchestraCard : Claim7 := { stood := { row := fnExactFormatOrchestraRow, standIns := [], harness := (true, "06d08cb90edeffce91de9a78eb01f1747385af73a4c98ceea21aee03015fbc05"), looks := false }, kinds := [], alts := [], laidByText := true, laidKinds := [.data, .data, .data], laidTests := true, laidLooks := .later }
def FnExactFormatOrchestraCardSaid : Prop := Claim7.holds Tryd.pinned (.plain (OpenSpec.ofChange fnExactFormatOrchestraSpec)) fnExactFormatOrchestraCard

/-- THE SECOND FORM's CARD OF 'laws.FnExactFormatScore'. -/
def fnExactFormatScoreUptoCard : Claim7 := { stood := { row := fnExactFormatScoreUptoRow, standIns := [], harness := (true, "06d08cb90edeffce91de9a78eb01f1747385af73a4c98ceea21aee03015fbc05"), looks := false }, kinds := [], alts := [], laidByText := true, laidKinds := [.data, .data, .data], laidTests := true, laidLooks := .later }
def FnExactFormatScoreUptoCardSaid : Prop := Claim7.holds Tryd.pinned (.plain (OpenSpec.upto fnExactFormatScoreSpec)) fnExactFormatScoreUptoCard

/-- THE SECOND FORM's CARD OF 'laws.FnExactFormatPart'. -/
def fnExactFormatPartUptoCard : Claim7 := { stood := { row := fnExactFormatPartUptoRow, standIns := [], harness := (true, "06d08cb90edeffce91de9a78eb01f1747385af73a4c98ceea21aee03015fbc05"), looks := false }, kinds := [], alts := [], laidByText := true, laidKinds := [.data, .data, .data], laidTests := true, laidLooks := .later }
def FnExactFormatPartUptoCardSaid : Prop := Claim7.holds Tryd.pinned (.plain (OpenSpec.upto fnExactFormatPartSpec)) fnExactFormatPartUptoCard

/-- THE SECOND FORM's CARD OF 'laws.FnExactFormatOrchestra'. -/
def fnExactFormatOrchestraUptoCard : Claim7 := { stood := { row := fnExactFormatOrchestraUptoRow, standIns := [], harness := (true, "06d08cb90edeffce91de9a78eb01f1747385af73a4c98ceea21aee03015fbc05"), looks := false }, kinds := [], alts := [], laidByText := true, laidKinds := [.data, .data, .data], laidTests := true, laidLooks := .later }
def FnExactFormatOrchestraUptoCardSaid : Prop := Claim7.holds Tryd.pinned (.plain (OpenSpec.upto fnExactFormatOrchestraSpec)) fnExactFormatOrchestraUptoCard
end Rows
end Go.Proofs.YtfjnjnmdlidpgaaDoor
