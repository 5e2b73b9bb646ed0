/-
  DERIVED. GIVEN WITH THE SEED: THE CARDS: each row of YtbdhocfaebchfaaDoorRows.lean that lists a variable, with what it lists TIED to the program's text (the seventh form; the later family's looks); each row that meets fmt, with fmt's text TOLD by the authors' own Lean function (tested against real Go, not proved from fmt's source: count such statements apart). THE CARD IS WHAT COUNTS. Prove the row's statement (the work); the ties are given (YtbdhocfaebchfaaDoorTie.lean); close each card by the builder's one call (the guide's Derived/Test/ToyasCard.lean, 'card_holds'). Laid BY PROGRAM, IN A SANDBOX (cutbox-door.mjs). By AI agents, Wed Nov 11 2026. No macro, syntax, notation, axiom, sorry.
-/
import Derived.Test.YtbdhocfaebchfaaDoorRows
import GoSem.ClaimSeven
namespace Go.Proofs.YtbdhocfaebchfaaDoor
namespace Rows

/-- THE TIED CARD OF 'sindrilaw14.RawTakes'. -/
def rawTakesCard : Claim7 := { stood := { row := rawTakesRow, standIns := [], harness := (true, "0ade18fa855b56232c69eadbfab2e87d66d7e032a100985c859a3d8a888c6c3a"), looks := false }, kinds := [], alts := [], laidByText := true, laidKinds := [.data, .data], laidTests := true, laidLooks := .later }
def RawTakesCardSaid : Prop := Claim7.holds Tryd.pinned (.plain (OpenSpec.ofChange rawTakesSpec)) rawTakesCard

/-- THE TIED CARD OF 'sindrilaw14.RawPuts'. -/
def rawPutsCard : Claim7 := { stood := { row := rawPutsRow, standIns := [], harness := (true, "0ade18fa855b56232c69eadbfab2e87d66d7e032a100985c859a3d8a888c6c3a"), looks := false }, kinds := [], alts := [], laidByText := true, laidKinds := [.data, .data], laidTests := true, laidLooks := .later }
def RawPutsCardSaid : Prop := Claim7.holds Tryd.pinned (.plain (OpenSpec.ofChange rawPutsSpec)) rawPutsCard

/-- THE TIED CARD OF 'sindrilaw14.RawBack'. -/
def rawBackCard : Claim7 := { stood := { row := rawBackRow, standIns := [], harness := (true, "0ade18fa855b56232c69eadbfab2e87d66d7e032a100985c859a3d8a888c6c3a"), looks := false }, kinds := [], alts := [], laidByText := true, laidKinds := [.data, .data], laidTests := true, laidLooks := .later }
def RawBackCardSaid : Prop := Claim7.holds Tryd.pinned (.plain (OpenSpec.ofChange rawBackSpec)) rawBackCard

/-- THE TIED CARD OF 'sindrilaw14.RawWidths'. -/
def rawWidthsCard : Claim7 := { stood := { row := rawWidthsRow, standIns := [], harness := (true, "0ade18fa855b56232c69eadbfab2e87d66d7e032a100985c859a3d8a888c6c3a"), looks := false }, kinds := [], alts := [], laidByText := true, laidKinds := [.data, .data], laidTests := true, laidLooks := .later }
def RawWidthsCardSaid : Prop := Claim7.holds Tryd.pinned (.plain (OpenSpec.ofChange rawWidthsSpec)) rawWidthsCard

/-- THE SECOND FORM's CARD OF 'sindrilaw14.RawTakes'. -/
def rawTakesUptoCard : Claim7 := { stood := { row := rawTakesUptoRow, standIns := [], harness := (true, "0ade18fa855b56232c69eadbfab2e87d66d7e032a100985c859a3d8a888c6c3a"), looks := false }, kinds := [], alts := [], laidByText := true, laidKinds := [.data, .data], laidTests := true, laidLooks := .later }
def RawTakesUptoCardSaid : Prop := Claim7.holds Tryd.pinned (.plain (OpenSpec.upto rawTakesSpec)) rawTakesUptoCard

/-- THE SECOND FORM's CARD OF 'sindrilaw14.RawPuts'. -/
def rawPutsUptoCard : Claim7 := { stood := { row := rawPutsUptoRow, standIns := [], harness := (true, "0ade18fa855b56232c69eadbfab2e87d66d7e032a100985c859a3d8a888c6c3a"), looks := false }, kinds := [], alts := [], laidByText := true, laidKinds := [.data, .data], laidTests := true, laidLooks := .later }
def RawPutsUptoCardSaid : Prop := Claim7.holds Tryd.pinned (.plain (OpenSpec.upto rawPutsSpec)) rawPutsUptoCard

/-- THE SECOND FORM's CARD OF 'sindrilaw14.RawBack'. -/
def rawBackUptoCard : Claim7 := { stood := { row := rawBackUptoRow, standIns := [], harness := (true, "0ade18fa855b56232c69eadbfab2e87d66d7e032a100985c859a3d8a888c6c3a"), looks := false }, kinds := [], alts := [], laidByText := true, laidKinds := [.data, .data], laidTests := true, laidLooks := .later }
def RawBackUptoCardSaid : Prop := Claim7.holds Tryd.pinned (.plain (OpenSpec.upto rawBackSpec)) rawBackUptoCard

/-- THE SECOND FORM's CARD OF 'sindrilaw14.RawWidths'. -/
def rawWidthsUptoCard : Claim7 := { stood := { row := rawWidthsUptoRow, standIns := [], harness := (true, "0ade18fa855b56232c69eadbfab2e87d66d7e032a100985c859a3d8a888c6c3a"), looks := false }, kinds := [], alts := [], laidByText := true, laidKinds := [.data, .data], laidTests := true, laidLooks := .later }
def RawWidthsUptoCardSaid : Prop := Claim7.holds Tryd.pinned (.plain (OpenSpec.upto rawWidthsSpec)) rawWidthsUptoCard
end Rows
end Go.Proofs.YtbdhocfaebchfaaDoor
