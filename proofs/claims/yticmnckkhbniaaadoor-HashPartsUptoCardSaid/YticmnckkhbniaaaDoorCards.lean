/-
  DERIVED. GIVEN WITH THE SEED: THE CARDS: each row of YticmnckkhbniaaaDoorRows.lean that lists a variable, with what it lists TIED to the program's text (the seventh form; the later family's looks); each row that meets fmt, with fmt's text TOLD by the authors' own Lean function (tested against real Go, not proved from fmt's source: count such statements apart). THE CARD IS WHAT COUNTS. Prove the row's statement (the work); the ties are given (YticmnckkhbniaaaDoorTie.lean); close each card by the builder's one call (the guide's Derived/Test/ToyasCard.lean, 'card_holds'). Laid BY PROGRAM, IN A SANDBOX (cutbox-door.mjs). By AI agents, Wed Nov 11 2026. No macro, syntax, notation, axiom, sorry.
-/
import Derived.Test.YticmnckkhbniaaaDoorRows
import GoSem.ClaimSeven
namespace Go.Proofs.YticmnckkhbniaaaDoor
namespace Rows

/-- THE TIED CARD OF 'strongboxlaw1.HashSums'. -/
def hashSumsCard : Claim7 := { stood := { row := hashSumsRow, standIns := [], harness := (true, "a804317bb25f6256c104990819e606b28091f0624e179a3926525eb8dee88f28"), looks := false }, kinds := [], alts := [], laidByText := true, laidKinds := [.data, .data], laidTests := true, laidLooks := .later }
def HashSumsCardSaid : Prop := Claim7.holds Tryd.pinned (.plain (OpenSpec.ofChange hashSumsSpec)) hashSumsCard

/-- THE TIED CARD OF 'strongboxlaw1.HashMacs'. -/
def hashMacsCard : Claim7 := { stood := { row := hashMacsRow, standIns := [], harness := (true, "a804317bb25f6256c104990819e606b28091f0624e179a3926525eb8dee88f28"), looks := false }, kinds := [], alts := [], laidByText := true, laidKinds := [.data, .data], laidTests := true, laidLooks := .later }
def HashMacsCardSaid : Prop := Claim7.holds Tryd.pinned (.plain (OpenSpec.ofChange hashMacsSpec)) hashMacsCard

/-- THE TIED CARD OF 'strongboxlaw1.HashHexes'. -/
def hashHexesCard : Claim7 := { stood := { row := hashHexesRow, standIns := [], harness := (true, "a804317bb25f6256c104990819e606b28091f0624e179a3926525eb8dee88f28"), looks := false }, kinds := [], alts := [], laidByText := true, laidKinds := [.data, .data], laidTests := true, laidLooks := .later }
def HashHexesCardSaid : Prop := Claim7.holds Tryd.pinned (.plain (OpenSpec.ofChange hashHexesSpec)) hashHexesCard

/-- THE TIED CARD OF 'strongboxlaw1.HashCuts'. -/
def hashCutsCard : Claim7 := { stood := { row := hashCutsRow, standIns := [], harness := (true, "a804317bb25f6256c104990819e606b28091f0624e179a3926525eb8dee88f28"), looks := false }, kinds := [], alts := [], laidByText := true, laidKinds := [.data, .data], laidTests := true, laidLooks := .later }
def HashCutsCardSaid : Prop := Claim7.holds Tryd.pinned (.plain (OpenSpec.ofChange hashCutsSpec)) hashCutsCard

/-- THE TIED CARD OF 'strongboxlaw1.HashParts'. -/
def hashPartsCard : Claim7 := { stood := { row := hashPartsRow, standIns := [], harness := (true, "a804317bb25f6256c104990819e606b28091f0624e179a3926525eb8dee88f28"), looks := false }, kinds := [], alts := [], laidByText := true, laidKinds := [.data, .data], laidTests := true, laidLooks := .later }
def HashPartsCardSaid : Prop := Claim7.holds Tryd.pinned (.plain (OpenSpec.ofChange hashPartsSpec)) hashPartsCard

/-- THE TIED CARD OF 'strongboxlaw1.HashSames'. -/
def hashSamesCard : Claim7 := { stood := { row := hashSamesRow, standIns := [], harness := (true, "a804317bb25f6256c104990819e606b28091f0624e179a3926525eb8dee88f28"), looks := false }, kinds := [], alts := [], laidByText := true, laidKinds := [.data, .data], laidTests := true, laidLooks := .later }
def HashSamesCardSaid : Prop := Claim7.holds Tryd.pinned (.plain (OpenSpec.ofChange hashSamesSpec)) hashSamesCard

/-- THE TIED CARD OF 'strongboxlaw1.HashDerives'. -/
def hashDerivesCard : Claim7 := { stood := { row := hashDerivesRow, standIns := [], harness := (true, "a804317bb25f6256c104990819e606b28091f0624e179a3926525eb8dee88f28"), looks := false }, kinds := [], alts := [], laidByText := true, laidKinds := [.data, .data], laidTests := true, laidLooks := .later }
def HashDerivesCardSaid : Prop := Claim7.holds Tryd.pinned (.plain (OpenSpec.ofChange hashDerivesSpec)) hashDerivesCard

/-- THE TIED CARD OF 'strongboxlaw1.HashChains'. -/
def hashChainsCard : Claim7 := { stood := { row := hashChainsRow, standIns := [], harness := (true, "a804317bb25f6256c104990819e606b28091f0624e179a3926525eb8dee88f28"), looks := false }, kinds := [], alts := [], laidByText := true, laidKinds := [.data, .data], laidTests := true, laidLooks := .later }
def HashChainsCardSaid : Prop := Claim7.holds Tryd.pinned (.plain (OpenSpec.ofChange hashChainsSpec)) hashChainsCard

/-- THE SECOND FORM's CARD OF 'strongboxlaw1.HashSums'. -/
def hashSumsUptoCard : Claim7 := { stood := { row := hashSumsUptoRow, standIns := [], harness := (true, "a804317bb25f6256c104990819e606b28091f0624e179a3926525eb8dee88f28"), looks := false }, kinds := [], alts := [], laidByText := true, laidKinds := [.data, .data], laidTests := true, laidLooks := .later }
def HashSumsUptoCardSaid : Prop := Claim7.holds Tryd.pinned (.plain (OpenSpec.upto hashSumsSpec)) hashSumsUptoCard

/-- THE SECOND FORM's CARD OF 'strongboxlaw1.HashMacs'. -/
def hashMacsUptoCard : Claim7 := { stood := { row := hashMacsUptoRow, standIns := [], harness := (true, "a804317bb25f6256c104990819e606b28091f0624e179a3926525eb8dee88f28"), looks := false }, kinds := [], alts := [], laidByText := true, laidKinds := [.data, .data], laidTests := true, laidLooks := .later }
def HashMacsUptoCardSaid : Prop := Claim7.holds Tryd.pinned (.plain (OpenSpec.upto hashMacsSpec)) hashMacsUptoCard

/-- THE SECOND FORM's CARD OF 'strongboxlaw1.HashHexes'. -/
def hashHexesUptoCard : Claim7 := { stood := { row := hashHexesUptoRow, standIns := [], harness := (true, "a804317bb25f6256c104990819e606b28091f0624e179a3926525eb8dee88f28"), looks := false }, kinds := [], alts := [], laidByText := true, laidKinds := [.data, .data], laidTests := true, laidLooks := .later }
def HashHexesUptoCardSaid : Prop := Claim7.holds Tryd.pinned (.plain (OpenSpec.upto hashHexesSpec)) hashHexesUptoCard

/-- THE SECOND FORM's CARD OF 'strongboxlaw1.HashCuts'. -/
def hashCutsUptoCard : Claim7 := { stood := { row := hashCutsUptoRow, standIns := [], harness := (true, "a804317bb25f6256c104990819e606b28091f0624e179a3926525eb8dee88f28"), looks := false }, kinds := [], alts := [], laidByText := true, laidKinds := [.data, .data], laidTests := true, laidLooks := .later }
def HashCutsUptoCardSaid : Prop := Claim7.holds Tryd.pinned (.plain (OpenSpec.upto hashCutsSpec)) hashCutsUptoCard

/-- THE SECOND FORM's CARD OF 'strongboxlaw1.HashParts'. -/
def hashPartsUptoCard : Claim7 := { stood := { row := hashPartsUptoRow, standIns := [], harness := (true, "a804317bb25f6256c104990819e606b28091f0624e179a3926525eb8dee88f28"), looks := false }, kinds := [], alts := [], laidByText := true, laidKinds := [.data, .data], laidTests := true, laidLooks := .later }
def HashPartsUptoCardSaid : Prop := Claim7.holds Tryd.pinned (.plain (OpenSpec.upto hashPartsSpec)) hashPartsUptoCard

/-- THE SECOND FORM's CARD OF 'strongboxlaw1.HashSames'. -/
def hashSamesUptoCard : Claim7 := { stood := { row := hashSamesUptoRow, standIns := [], harness := (true, "a804317bb25f6256c104990819e606b28091f0624e179a3926525eb8dee88f28"), looks := false }, kinds := [], alts := [], laidByText := true, laidKinds := [.data, .data], laidTests := true, laidLooks := .later }
def HashSamesUptoCardSaid : Prop := Claim7.holds Tryd.pinned (.plain (OpenSpec.upto hashSamesSpec)) hashSamesUptoCard

/-- THE SECOND FORM's CARD OF 'strongboxlaw1.HashDerives'. -/
def hashDerivesUptoCard : Claim7 := { stood := { row := hashDerivesUptoRow, standIns := [], harness := (true, "a804317bb25f6256c104990819e606b28091f0624e179a3926525eb8dee88f28"), looks := false }, kinds := [], alts := [], laidByText := true, laidKinds := [.data, .data], laidTests := true, laidLooks := .later }
def HashDerivesUptoCardSaid : Prop := Claim7.holds Tryd.pinned (.plain (OpenSpec.upto hashDerivesSpec)) hashDerivesUptoCard

/-- THE SECOND FORM's CARD OF 'strongboxlaw1.HashChains'. -/
def hashChainsUptoCard : Claim7 := { stood := { row := hashChainsUptoRow, standIns := [], harness := (true, "a804317bb25f6256c104990819e606b28091f0624e179a3926525eb8dee88f28"), looks := false }, kinds := [], alts := [], laidByText := true, laidKinds := [.data, .data], laidTests := true, laidLooks := .later }
def HashChainsUptoCardSaid : Prop := Claim7.holds Tryd.pinned (.plain (OpenSpec.upto hashChainsSpec)) hashChainsUptoCard
end Rows
end Go.Proofs.YticmnckkhbniaaaDoor
