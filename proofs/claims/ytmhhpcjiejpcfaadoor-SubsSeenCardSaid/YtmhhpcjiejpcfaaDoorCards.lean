/-
  DERIVED. GIVEN WITH THE SEED: THE CARDS: each row of YtmhhpcjiejpcfaaDoorRows.lean that lists a variable, with what it lists TIED to the program's text (the seventh form; the later family's looks); each row that meets fmt, with fmt's text TOLD by the authors' own Lean function (tested against real Go, not proved from fmt's source: count such statements apart). THE CARD IS WHAT COUNTS. Prove the row's statement (the work); the ties are given (YtmhhpcjiejpcfaaDoorTie.lean); close each card by the builder's one call (the guide's Derived/Test/ToyasCard.lean, 'card_holds'). Laid BY PROGRAM, IN A SANDBOX (cutbox-door.mjs). By AI agents, Wed Nov 11 2026. No macro, syntax, notation, axiom, sorry.
-/
import Derived.Test.YtmhhpcjiejpcfaaDoorRows
import GoSem.ClaimSeven
namespace Go.Proofs.YtmhhpcjiejpcfaaDoor
namespace Rows

/-- THE TIED CARD OF 'wharflaw23.SubsAsked'. -/
def subsAskedCard : Claim7 := { stood := { row := subsAskedRow, standIns := [], harness := (true, "6898d746c69beb49724dcb80fb0c22be489e3b24a90aba8d541ae819aeae5eeb"), looks := false }, kinds := [], alts := [], laidByText := true, laidKinds := [.data, .pinned], laidTests := true, laidLooks := .later }
def SubsAskedCardSaid : Prop := Claim7.holds Tryd.pinned (.plain (OpenSpec.ofChange subsAskedSpec)) subsAskedCard

/-- THE TIED CARD OF 'wharflaw23.SubsTurns'. -/
def subsTurnsCard : Claim7 := { stood := { row := subsTurnsRow, standIns := [], harness := (true, "6898d746c69beb49724dcb80fb0c22be489e3b24a90aba8d541ae819aeae5eeb"), looks := false }, kinds := [], alts := [], laidByText := true, laidKinds := [.data, .pinned], laidTests := true, laidLooks := .later }
def SubsTurnsCardSaid : Prop := Claim7.holds Tryd.pinned (.plain (OpenSpec.ofChange subsTurnsSpec)) subsTurnsCard

/-- THE TIED CARD OF 'wharflaw23.SubsSeen'. -/
def subsSeenCard : Claim7 := { stood := { row := subsSeenRow, standIns := [], harness := (true, "6898d746c69beb49724dcb80fb0c22be489e3b24a90aba8d541ae819aeae5eeb"), looks := false }, kinds := [], alts := [], laidByText := true, laidKinds := [.data, .pinned], laidTests := true, laidLooks := .later }
def SubsSeenCardSaid : Prop := Claim7.holds Tryd.pinned (.plain (OpenSpec.ofChange subsSeenSpec)) subsSeenCard

/-- THE SECOND FORM's CARD OF 'wharflaw23.SubsAsked'. -/
def subsAskedUptoCard : Claim7 := { stood := { row := subsAskedUptoRow, standIns := [], harness := (true, "6898d746c69beb49724dcb80fb0c22be489e3b24a90aba8d541ae819aeae5eeb"), looks := false }, kinds := [], alts := [], laidByText := true, laidKinds := [.data, .pinned], laidTests := true, laidLooks := .later }
def SubsAskedUptoCardSaid : Prop := Claim7.holds Tryd.pinned (.plain (OpenSpec.upto subsAskedSpec)) subsAskedUptoCard

/-- THE SECOND FORM's CARD OF 'wharflaw23.SubsTurns'. -/
def subsTurnsUptoCard : Claim7 := { stood := { row := subsTurnsUptoRow, standIns := [], harness := (true, "6898d746c69beb49724dcb80fb0c22be489e3b24a90aba8d541ae819aeae5eeb"), looks := false }, kinds := [], alts := [], laidByText := true, laidKinds := [.data, .pinned], laidTests := true, laidLooks := .later }
def SubsTurnsUptoCardSaid : Prop := Claim7.holds Tryd.pinned (.plain (OpenSpec.upto subsTurnsSpec)) subsTurnsUptoCard

/-- THE SECOND FORM's CARD OF 'wharflaw23.SubsSeen'. -/
def subsSeenUptoCard : Claim7 := { stood := { row := subsSeenUptoRow, standIns := [], harness := (true, "6898d746c69beb49724dcb80fb0c22be489e3b24a90aba8d541ae819aeae5eeb"), looks := false }, kinds := [], alts := [], laidByText := true, laidKinds := [.data, .pinned], laidTests := true, laidLooks := .later }
def SubsSeenUptoCardSaid : Prop := Claim7.holds Tryd.pinned (.plain (OpenSpec.upto subsSeenSpec)) subsSeenUptoCard
end Rows
end Go.Proofs.YtmhhpcjiejpcfaaDoor
