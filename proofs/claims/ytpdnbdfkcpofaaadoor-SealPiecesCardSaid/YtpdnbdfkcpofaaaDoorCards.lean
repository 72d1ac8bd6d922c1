/-
  DERIVED. GIVEN WITH THE SEED: THE CARDS: each row of YtpdnbdfkcpofaaaDoorRows.lean that lists a variable, with what it lists TIED to the program's text (the seventh form; the later family's looks); each row that meets fmt, with fmt's text TOLD by the authors' own Lean function (tested against real Go, not proved from fmt's source: count such statements apart). THE CARD IS WHAT COUNTS. Prove the row's statement (the work); the ties are given (YtpdnbdfkcpofaaaDoorTie.lean); close each card by the builder's one call (the guide's Derived/Test/ToyasCard.lean, 'card_holds'). Laid BY PROGRAM, IN A SANDBOX (cutbox-door.mjs). By AI agents, Wed Nov 11 2026. No macro, syntax, notation, axiom, sorry.
-/
import Derived.Test.YtpdnbdfkcpofaaaDoorRows
import GoSem.ClaimSeven
namespace Go.Proofs.YtpdnbdfkcpofaaaDoor
namespace Rows

/-- THE TIED CARD OF 'strongboxlaw2.SealStreams'. -/
def sealStreamsCard : Claim7 := { stood := { row := sealStreamsRow, standIns := [], harness := (true, "842394a58ad56c5263c55554a65389710317b4b0e3102361c7580f65949ebaf3"), looks := false }, kinds := [], alts := [], laidByText := true, laidKinds := [.data, .data], laidTests := true, laidLooks := .later }
def SealStreamsCardSaid : Prop := Claim7.holds Tryd.pinned (.plain (OpenSpec.ofChange sealStreamsSpec)) sealStreamsCard

/-- THE TIED CARD OF 'strongboxlaw2.SealXors'. -/
def sealXorsCard : Claim7 := { stood := { row := sealXorsRow, standIns := [], harness := (true, "842394a58ad56c5263c55554a65389710317b4b0e3102361c7580f65949ebaf3"), looks := false }, kinds := [], alts := [], laidByText := true, laidKinds := [.data, .data], laidTests := true, laidLooks := .later }
def SealXorsCardSaid : Prop := Claim7.holds Tryd.pinned (.plain (OpenSpec.ofChange sealXorsSpec)) sealXorsCard

/-- THE TIED CARD OF 'strongboxlaw2.SealPieces'. -/
def sealPiecesCard : Claim7 := { stood := { row := sealPiecesRow, standIns := [], harness := (true, "842394a58ad56c5263c55554a65389710317b4b0e3102361c7580f65949ebaf3"), looks := false }, kinds := [], alts := [], laidByText := true, laidKinds := [.data, .data], laidTests := true, laidLooks := .later }
def SealPiecesCardSaid : Prop := Claim7.holds Tryd.pinned (.plain (OpenSpec.ofChange sealPiecesSpec)) sealPiecesCard

/-- THE TIED CARD OF 'strongboxlaw2.SealKeys'. -/
def sealKeysCard : Claim7 := { stood := { row := sealKeysRow, standIns := [], harness := (true, "842394a58ad56c5263c55554a65389710317b4b0e3102361c7580f65949ebaf3"), looks := false }, kinds := [], alts := [], laidByText := true, laidKinds := [.data, .data], laidTests := true, laidLooks := .later }
def SealKeysCardSaid : Prop := Claim7.holds Tryd.pinned (.plain (OpenSpec.ofChange sealKeysSpec)) sealKeysCard

/-- THE TIED CARD OF 'strongboxlaw2.SealOpens'. -/
def sealOpensCard : Claim7 := { stood := { row := sealOpensRow, standIns := [], harness := (true, "842394a58ad56c5263c55554a65389710317b4b0e3102361c7580f65949ebaf3"), looks := false }, kinds := [], alts := [], laidByText := true, laidKinds := [.data, .data], laidTests := true, laidLooks := .later }
def SealOpensCardSaid : Prop := Claim7.holds Tryd.pinned (.plain (OpenSpec.ofChange sealOpensSpec)) sealOpensCard

/-- THE TIED CARD OF 'strongboxlaw2.SealWraps'. -/
def sealWrapsCard : Claim7 := { stood := { row := sealWrapsRow, standIns := [], harness := (true, "842394a58ad56c5263c55554a65389710317b4b0e3102361c7580f65949ebaf3"), looks := false }, kinds := [], alts := [], laidByText := true, laidKinds := [.data, .data], laidTests := true, laidLooks := .later }
def SealWrapsCardSaid : Prop := Claim7.holds Tryd.pinned (.plain (OpenSpec.ofChange sealWrapsSpec)) sealWrapsCard

/-- THE TIED CARD OF 'strongboxlaw2.SealShared'. -/
def sealSharedCard : Claim7 := { stood := { row := sealSharedRow, standIns := [], harness := (true, "842394a58ad56c5263c55554a65389710317b4b0e3102361c7580f65949ebaf3"), looks := false }, kinds := [], alts := [], laidByText := true, laidKinds := [.data, .data], laidTests := true, laidLooks := .later }
def SealSharedCardSaid : Prop := Claim7.holds Tryd.pinned (.plain (OpenSpec.ofChange sealSharedSpec)) sealSharedCard

/-- THE TIED CARD OF 'strongboxlaw2.SealBack'. -/
def sealBackCard : Claim7 := { stood := { row := sealBackRow, standIns := [], harness := (true, "842394a58ad56c5263c55554a65389710317b4b0e3102361c7580f65949ebaf3"), looks := false }, kinds := [], alts := [], laidByText := true, laidKinds := [.data, .data], laidTests := true, laidLooks := .later }
def SealBackCardSaid : Prop := Claim7.holds Tryd.pinned (.plain (OpenSpec.ofChange sealBackSpec)) sealBackCard

/-- THE SECOND FORM's CARD OF 'strongboxlaw2.SealStreams'. -/
def sealStreamsUptoCard : Claim7 := { stood := { row := sealStreamsUptoRow, standIns := [], harness := (true, "842394a58ad56c5263c55554a65389710317b4b0e3102361c7580f65949ebaf3"), looks := false }, kinds := [], alts := [], laidByText := true, laidKinds := [.data, .data], laidTests := true, laidLooks := .later }
def SealStreamsUptoCardSaid : Prop := Claim7.holds Tryd.pinned (.plain (OpenSpec.upto sealStreamsSpec)) sealStreamsUptoCard

/-- THE SECOND FORM's CARD OF 'strongboxlaw2.SealXors'. -/
def sealXorsUptoCard : Claim7 := { stood := { row := sealXorsUptoRow, standIns := [], harness := (true, "842394a58ad56c5263c55554a65389710317b4b0e3102361c7580f65949ebaf3"), looks := false }, kinds := [], alts := [], laidByText := true, laidKinds := [.data, .data], laidTests := true, laidLooks := .later }
def SealXorsUptoCardSaid : Prop := Claim7.holds Tryd.pinned (.plain (OpenSpec.upto sealXorsSpec)) sealXorsUptoCard

/-- THE SECOND FORM's CARD OF 'strongboxlaw2.SealPieces'. -/
def sealPiecesUptoCard : Claim7 := { stood := { row := sealPiecesUptoRow, standIns := [], harness := (true, "842394a58ad56c5263c55554a65389710317b4b0e3102361c7580f65949ebaf3"), looks := false }, kinds := [], alts := [], laidByText := true, laidKinds := [.data, .data], laidTests := true, laidLooks := .later }
def SealPiecesUptoCardSaid : Prop := Claim7.holds Tryd.pinned (.plain (OpenSpec.upto sealPiecesSpec)) sealPiecesUptoCard

/-- THE SECOND FORM's CARD OF 'strongboxlaw2.SealKeys'. -/
def sealKeysUptoCard : Claim7 := { stood := { row := sealKeysUptoRow, standIns := [], harness := (true, "842394a58ad56c5263c55554a65389710317b4b0e3102361c7580f65949ebaf3"), looks := false }, kinds := [], alts := [], laidByText := true, laidKinds := [.data, .data], laidTests := true, laidLooks := .later }
def SealKeysUptoCardSaid : Prop := Claim7.holds Tryd.pinned (.plain (OpenSpec.upto sealKeysSpec)) sealKeysUptoCard

/-- THE SECOND FORM's CARD OF 'strongboxlaw2.SealOpens'. -/
def sealOpensUptoCard : Claim7 := { stood := { row := sealOpensUptoRow, standIns := [], harness := (true, "842394a58ad56c5263c55554a65389710317b4b0e3102361c7580f65949ebaf3"), looks := false }, kinds := [], alts := [], laidByText := true, laidKinds := [.data, .data], laidTests := true, laidLooks := .later }
def SealOpensUptoCardSaid : Prop := Claim7.holds Tryd.pinned (.plain (OpenSpec.upto sealOpensSpec)) sealOpensUptoCard

/-- THE SECOND FORM's CARD OF 'strongboxlaw2.SealWraps'. -/
def sealWrapsUptoCard : Claim7 := { stood := { row := sealWrapsUptoRow, standIns := [], harness := (true, "842394a58ad56c5263c55554a65389710317b4b0e3102361c7580f65949ebaf3"), looks := false }, kinds := [], alts := [], laidByText := true, laidKinds := [.data, .data], laidTests := true, laidLooks := .later }
def SealWrapsUptoCardSaid : Prop := Claim7.holds Tryd.pinned (.plain (OpenSpec.upto sealWrapsSpec)) sealWrapsUptoCard

/-- THE SECOND FORM's CARD OF 'strongboxlaw2.SealShared'. -/
def sealSharedUptoCard : Claim7 := { stood := { row := sealSharedUptoRow, standIns := [], harness := (true, "842394a58ad56c5263c55554a65389710317b4b0e3102361c7580f65949ebaf3"), looks := false }, kinds := [], alts := [], laidByText := true, laidKinds := [.data, .data], laidTests := true, laidLooks := .later }
def SealSharedUptoCardSaid : Prop := Claim7.holds Tryd.pinned (.plain (OpenSpec.upto sealSharedSpec)) sealSharedUptoCard

/-- THE SECOND FORM's CARD OF 'strongboxlaw2.SealBack'. -/
def sealBackUptoCard : Claim7 := { stood := { row := sealBackUptoRow, standIns := [], harness := (true, "842394a58ad56c5263c55554a65389710317b4b0e3102361c7580f65949ebaf3"), looks := false }, kinds := [], alts := [], laidByText := true, laidKinds := [.data, .data], laidTests := true, laidLooks := .later }
def SealBackUptoCardSaid : Prop := Claim7.holds Tryd.pinned (.plain (OpenSpec.upto sealBackSpec)) sealBackUptoCard
end Rows
end Go.Proofs.YtpdnbdfkcpofaaaDoor
