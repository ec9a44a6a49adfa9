/-
  DERIVED. GIVEN WITH THE SEED: THE CARDS: each row of YtpgbfoeejiamjaaGreatDoorRows.lean that lists a variable, with what it lists TIED to the program's text (the seventh form; the later family's looks); each row that meets fmt, with fmt's text TOLD by the authors' own Lean function (tested against real Go, not proved from fmt's source: count such statements apart). THE CARD IS WHAT COUNTS. Prove the row's statement (the work); the ties are given (YtpgbfoeejiamjaaGreatDoorTie.lean); close each card by the builder's one call (the guide's Derived/Test/ToyasCard.lean, 'card_holds'). Laid BY PROGRAM, IN A SANDBOX (cutbox-door.mjs). By AI agents, Wed Nov 11 2026. No macro, syntax, notation, axiom, sorry.
-/
import Derived.Test.YtpgbfoeejiamjaaGreatDoorRows
import GoSem.ClaimSeven
namespace Go.Proofs.YtpgbfoeejiamjaaGreatDoor
namespace Rows

/-- THE TIED CARD OF 'skaldlaw17.StableRecords'. -/
def stableRecordsCard : Claim7 := { stood := { row := stableRecordsRow, standIns := [], harness := (true, "7a31227933b2936f26e0e056dc3776e07693e82169dd412d0e6e4a4f35c0969e"), looks := true }, kinds := [], alts := [], laidByText := true, laidKinds := [.data], laidTests := true, laidLooks := .later }
def StableRecordsCardSaid : Prop := Claim7.holds Tryz.pinned (.plain (OpenSpec.ofChange stableRecordsSpec)) stableRecordsCard

/-- THE TIED CARD OF 'skaldlaw17.StableRecovers'. -/
def stableRecoversCard : Claim7 := { stood := { row := stableRecoversRow, standIns := [], harness := (true, "7a31227933b2936f26e0e056dc3776e07693e82169dd412d0e6e4a4f35c0969e"), looks := true }, kinds := [], alts := [], laidByText := true, laidKinds := [.data], laidTests := true, laidLooks := .later }
def StableRecoversCardSaid : Prop := Claim7.holds Tryz.pinned (.plain (OpenSpec.ofChange stableRecoversSpec)) stableRecoversCard

/-- THE TIED CARD OF 'skaldlaw17.StablePlays'. -/
def stablePlaysCard : Claim7 := { stood := { row := stablePlaysRow, standIns := [], harness := (true, "7a31227933b2936f26e0e056dc3776e07693e82169dd412d0e6e4a4f35c0969e"), looks := true }, kinds := [], alts := [], laidByText := true, laidKinds := [.data], laidTests := true, laidLooks := .later }
def StablePlaysCardSaid : Prop := Claim7.holds Tryz.pinned (.plain (OpenSpec.ofChange stablePlaysSpec)) stablePlaysCard

/-- THE TIED CARD OF 'skaldlaw17.StableLong'. -/
def stableLongCard : Claim7 := { stood := { row := stableLongRow, standIns := [], harness := (true, "7a31227933b2936f26e0e056dc3776e07693e82169dd412d0e6e4a4f35c0969e"), looks := true }, kinds := [], alts := [], laidByText := true, laidKinds := [.data], laidTests := true, laidLooks := .later }
def StableLongCardSaid : Prop := Claim7.holds Tryz.pinned (.plain (OpenSpec.ofChange stableLongSpec)) stableLongCard

/-- THE TIED CARD OF 'skaldlaw17.StableKeeps'. -/
def stableKeepsCard : Claim7 := { stood := { row := stableKeepsRow, standIns := [], harness := (true, "7a31227933b2936f26e0e056dc3776e07693e82169dd412d0e6e4a4f35c0969e"), looks := true }, kinds := [], alts := [], laidByText := true, laidKinds := [.data], laidTests := true, laidLooks := .later }
def StableKeepsCardSaid : Prop := Claim7.holds Tryz.pinned (.plain (OpenSpec.ofChange stableKeepsSpec)) stableKeepsCard

/-- THE TIED CARD OF 'skaldlaw17.StableCompacts'. -/
def stableCompactsCard : Claim7 := { stood := { row := stableCompactsRow, standIns := [], harness := (true, "7a31227933b2936f26e0e056dc3776e07693e82169dd412d0e6e4a4f35c0969e"), looks := true }, kinds := [], alts := [], laidByText := true, laidKinds := [.data], laidTests := true, laidLooks := .later }
def StableCompactsCardSaid : Prop := Claim7.holds Tryz.pinned (.plain (OpenSpec.ofChange stableCompactsSpec)) stableCompactsCard

/-- THE SECOND FORM's CARD OF 'skaldlaw17.StableRecords'. -/
def stableRecordsUptoCard : Claim7 := { stood := { row := stableRecordsUptoRow, standIns := [], harness := (true, "7a31227933b2936f26e0e056dc3776e07693e82169dd412d0e6e4a4f35c0969e"), looks := true }, kinds := [], alts := [], laidByText := true, laidKinds := [.data], laidTests := true, laidLooks := .later }
def StableRecordsUptoCardSaid : Prop := Claim7.holds Tryz.pinned (.plain (OpenSpec.upto stableRecordsSpec)) stableRecordsUptoCard

/-- THE SECOND FORM's CARD OF 'skaldlaw17.StableRecovers'. -/
def stableRecoversUptoCard : Claim7 := { stood := { row := stableRecoversUptoRow, standIns := [], harness := (true, "7a31227933b2936f26e0e056dc3776e07693e82169dd412d0e6e4a4f35c0969e"), looks := true }, kinds := [], alts := [], laidByText := true, laidKinds := [.data], laidTests := true, laidLooks := .later }
def StableRecoversUptoCardSaid : Prop := Claim7.holds Tryz.pinned (.plain (OpenSpec.upto stableRecoversSpec)) stableRecoversUptoCard

/-- THE SECOND FORM's CARD OF 'skaldlaw17.StablePlays'. -/
def stablePlaysUptoCard : Claim7 := { stood := { row := stablePlaysUptoRow, standIns := [], harness := (true, "7a31227933b2936f26e0e056dc3776e07693e82169dd412d0e6e4a4f35c0969e"), looks := true }, kinds := [], alts := [], laidByText := true, laidKinds := [.data], laidTests := true, laidLooks := .later }
def StablePlaysUptoCardSaid : Prop := Claim7.holds Tryz.pinned (.plain (OpenSpec.upto stablePlaysSpec)) stablePlaysUptoCard

/-- THE SECOND FORM's CARD OF 'skaldlaw17.StableLong'. -/
def stableLongUptoCard : Claim7 := { stood := { row := stableLongUptoRow, standIns := [], harness := (true, "7a31227933b2936f26e0e056dc3776e07693e82169dd412d0e6e4a4f35c0969e"), looks := true }, kinds := [], alts := [], laidByText := true, laidKinds := [.data], laidTests := true, laidLooks := .later }
def StableLongUptoCardSaid : Prop := Claim7.holds Tryz.pinned (.plain (OpenSpec.upto stableLongSpec)) stableLongUptoCard

/-- THE SECOND FORM's CARD OF 'skaldlaw17.StableKeeps'. -/
def stableKeepsUptoCard : Claim7 := { stood := { row := stableKeepsUptoRow, standIns := [], harness := (true, "7a31227933b2936f26e0e056dc3776e07693e82169dd412d0e6e4a4f35c0969e"), looks := true }, kinds := [], alts := [], laidByText := true, laidKinds := [.data], laidTests := true, laidLooks := .later }
def StableKeepsUptoCardSaid : Prop := Claim7.holds Tryz.pinned (.plain (OpenSpec.upto stableKeepsSpec)) stableKeepsUptoCard

/-- THE SECOND FORM's CARD OF 'skaldlaw17.StableCompacts'. -/
def stableCompactsUptoCard : Claim7 := { stood := { row := stableCompactsUptoRow, standIns := [], harness := (true, "7a31227933b2936f26e0e056dc3776e07693e82169dd412d0e6e4a4f35c0969e"), looks := true }, kinds := [], alts := [], laidByText := true, laidKinds := [.data], laidTests := true, laidLooks := .later }
def StableCompactsUptoCardSaid : Prop := Claim7.holds Tryz.pinned (.plain (OpenSpec.upto stableCompactsSpec)) stableCompactsUptoCard
end Rows
end Go.Proofs.YtpgbfoeejiamjaaGreatDoor
