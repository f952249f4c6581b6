/-
  DERIVED. GIVEN WITH THE SEED: THE CARDS: each row of YtaigepmndpefgaaDoorRows.lean that lists a variable, with what it lists TIED to the program's text (the seventh form; the later family's looks); each row that meets fmt, with fmt's text TOLD by the authors' own Lean function (tested against real Go, not proved from fmt's source: count such statements apart). THE CARD IS WHAT COUNTS. Prove the row's statement (the work); the ties are given (YtaigepmndpefgaaDoorTie.lean); close each card by the builder's one call (the guide's Derived/Test/ToyasCard.lean, 'card_holds'). Laid BY PROGRAM, IN A SANDBOX (cutbox-door.mjs). By AI agents, Wed Nov 11 2026. No macro, syntax, notation, axiom, sorry.
-/
import Derived.Test.YtaigepmndpefgaaDoorRows
import GoSem.ClaimSeven
namespace Go.Proofs.YtaigepmndpefgaaDoor
namespace Rows

/-- THE TIED CARD OF 'laws.FnExactOutText'. -/
def fnExactOutTextCard : Claim7 := { stood := { row := fnExactOutTextRow, standIns := [], harness := (true, "61ec16c744f8390c4cfb31dc3a2fbb69d4542718116fec16cfdc39c0e2640704"), looks := false }, kinds := [], alts := [], laidByText := true, laidKinds := [.data, .data, .data], laidTests := true, laidLooks := .later }
def FnExactOutTextCardSaid : Prop := Claim7.holds Tryd.pinned (.plain (OpenSpec.ofChange fnExactOutTextSpec)) fnExactOutTextCard

/-- THE TIED CARD OF 'laws.FnExactLeftText'. -/
def fnExactLeftTextCard : Claim7 := { stood := { row := fnExactLeftTextRow, standIns := [], harness := (true, "61ec16c744f8390c4cfb31dc3a2fbb69d4542718116fec16cfdc39c0e2640704"), looks := false }, kinds := [], alts := [], laidByText := true, laidKinds := [.data, .data, .data], laidTests := true, laidLooks := .later }
def FnExactLeftTextCardSaid : Prop := Claim7.holds Tryd.pinned (.plain (OpenSpec.ofChange fnExactLeftTextSpec)) fnExactLeftTextCard

/-- THE TIED CARD OF 'laws.FnExactEventText'. -/
def fnExactEventTextCard : Claim7 := { stood := { row := fnExactEventTextRow, standIns := [], harness := (true, "61ec16c744f8390c4cfb31dc3a2fbb69d4542718116fec16cfdc39c0e2640704"), looks := false }, kinds := [], alts := [], laidByText := true, laidKinds := [.data, .data, .data], laidTests := true, laidLooks := .later }
def FnExactEventTextCardSaid : Prop := Claim7.holds Tryd.pinned (.plain (OpenSpec.ofChange fnExactEventTextSpec)) fnExactEventTextCard

/-- THE TIED CARD OF 'laws.FnExactConfText'. -/
def fnExactConfTextCard : Claim7 := { stood := { row := fnExactConfTextRow, standIns := [], harness := (true, "61ec16c744f8390c4cfb31dc3a2fbb69d4542718116fec16cfdc39c0e2640704"), looks := false }, kinds := [], alts := [], laidByText := true, laidKinds := [.data, .data, .data], laidTests := true, laidLooks := .later }
def FnExactConfTextCardSaid : Prop := Claim7.holds Tryd.pinned (.plain (OpenSpec.ofChange fnExactConfTextSpec)) fnExactConfTextCard

/-- THE SECOND FORM's CARD OF 'laws.FnExactOutText'. -/
def fnExactOutTextUptoCard : Claim7 := { stood := { row := fnExactOutTextUptoRow, standIns := [], harness := (true, "61ec16c744f8390c4cfb31dc3a2fbb69d4542718116fec16cfdc39c0e2640704"), looks := false }, kinds := [], alts := [], laidByText := true, laidKinds := [.data, .data, .data], laidTests := true, laidLooks := .later }
def FnExactOutTextUptoCardSaid : Prop := Claim7.holds Tryd.pinned (.plain (OpenSpec.upto fnExactOutTextSpec)) fnExactOutTextUptoCard

/-- THE SECOND FORM's CARD OF 'laws.FnExactLeftText'. -/
def fnExactLeftTextUptoCard : Claim7 := { stood := { row := fnExactLeftTextUptoRow, standIns := [], harness := (true, "61ec16c744f8390c4cfb31dc3a2fbb69d4542718116fec16cfdc39c0e2640704"), looks := false }, kinds := [], alts := [], laidByText := true, laidKinds := [.data, .data, .data], laidTests := true, laidLooks := .later }
def FnExactLeftTextUptoCardSaid : Prop := Claim7.holds Tryd.pinned (.plain (OpenSpec.upto fnExactLeftTextSpec)) fnExactLeftTextUptoCard

/-- THE SECOND FORM's CARD OF 'laws.FnExactEventText'. -/
def fnExactEventTextUptoCard : Claim7 := { stood := { row := fnExactEventTextUptoRow, standIns := [], harness := (true, "61ec16c744f8390c4cfb31dc3a2fbb69d4542718116fec16cfdc39c0e2640704"), looks := false }, kinds := [], alts := [], laidByText := true, laidKinds := [.data, .data, .data], laidTests := true, laidLooks := .later }
def FnExactEventTextUptoCardSaid : Prop := Claim7.holds Tryd.pinned (.plain (OpenSpec.upto fnExactEventTextSpec)) fnExactEventTextUptoCard

/-- THE SECOND FORM's CARD OF 'laws.FnExactConfText'. -/
def fnExactConfTextUptoCard : Claim7 := { stood := { row := fnExactConfTextUptoRow, standIns := [], harness := (true, "61ec16c744f8390c4cfb31dc3a2fbb69d4542718116fec16cfdc39c0e2640704"), looks := false }, kinds := [], alts := [], laidByText := true, laidKinds := [.data, .data, .data], laidTests := true, laidLooks := .later }
def FnExactConfTextUptoCardSaid : Prop := Claim7.holds Tryd.pinned (.plain (OpenSpec.upto fnExactConfTextSpec)) fnExactConfTextUptoCard
end Rows
end Go.Proofs.YtaigepmndpefgaaDoor
