/-
  DERIVED. GIVEN WITH THE SEED: THE CARDS: each row of YthhjmodkodkgpaaDoorRows.lean that lists a variable, with what it lists TIED to the program's text (the seventh form; the later family's looks); each row that meets fmt, with fmt's text TOLD by the authors' own Lean function (tested against real Go, not proved from fmt's source: count such statements apart). THE CARD IS WHAT COUNTS. Prove the row's statement (the work); the ties are given (YthhjmodkodkgpaaDoorTie.lean); close each card by the builder's one call (the guide's Derived/Test/ToyasCard.lean, 'card_holds'). Laid BY PROGRAM, IN A SANDBOX (cutbox-door.mjs). By AI agents, Wed Nov 11 2026. No macro, syntax, notation, axiom, sorry.
-/
import Derived.Test.YthhjmodkodkgpaaDoorRows
import GoSem.ClaimSeven
namespace Go.Proofs.YthhjmodkodkgpaaDoor
namespace Rows

/-- THE TIED CARD OF 'strongboxlaw19.MerklePaths'. -/
def merklePathsCard : Claim7 := { stood := { row := merklePathsRow, standIns := [], harness := (true, "b9cd1f8807a48bc146d1744180080eff98311c85e41b0c56b41d25d4650495c0"), looks := false }, kinds := [], alts := [], laidByText := true, laidKinds := [.data, .data], laidTests := true, laidLooks := .later }
def MerklePathsCardSaid : Prop := Claim7.holds Tryd.pinned (.plain (OpenSpec.ofChange merklePathsSpec)) merklePathsCard

/-- THE TIED CARD OF 'strongboxlaw19.MerkleChecks'. -/
def merkleChecksCard : Claim7 := { stood := { row := merkleChecksRow, standIns := [], harness := (true, "b9cd1f8807a48bc146d1744180080eff98311c85e41b0c56b41d25d4650495c0"), looks := false }, kinds := [], alts := [], laidByText := true, laidKinds := [.data, .data], laidTests := true, laidLooks := .later }
def MerkleChecksCardSaid : Prop := Claim7.holds Tryd.pinned (.plain (OpenSpec.ofChange merkleChecksSpec)) merkleChecksCard

/-- THE TIED CARD OF 'strongboxlaw19.MerkleRoots'. -/
def merkleRootsCard : Claim7 := { stood := { row := merkleRootsRow, standIns := [], harness := (true, "b9cd1f8807a48bc146d1744180080eff98311c85e41b0c56b41d25d4650495c0"), looks := false }, kinds := [], alts := [], laidByText := true, laidKinds := [.data, .data], laidTests := true, laidLooks := .later }
def MerkleRootsCardSaid : Prop := Claim7.holds Tryd.pinned (.plain (OpenSpec.ofChange merkleRootsSpec)) merkleRootsCard

/-- THE TIED CARD OF 'strongboxlaw19.MerkleBelow'. -/
def merkleBelowCard : Claim7 := { stood := { row := merkleBelowRow, standIns := [], harness := (true, "b9cd1f8807a48bc146d1744180080eff98311c85e41b0c56b41d25d4650495c0"), looks := false }, kinds := [], alts := [], laidByText := true, laidKinds := [.data, .data], laidTests := true, laidLooks := .later }
def MerkleBelowCardSaid : Prop := Claim7.holds Tryd.pinned (.plain (OpenSpec.ofChange merkleBelowSpec)) merkleBelowCard

/-- THE TIED CARD OF 'strongboxlaw19.MerkleClashes'. -/
def merkleClashesCard : Claim7 := { stood := { row := merkleClashesRow, standIns := [], harness := (true, "b9cd1f8807a48bc146d1744180080eff98311c85e41b0c56b41d25d4650495c0"), looks := false }, kinds := [], alts := [], laidByText := true, laidKinds := [.data, .data], laidTests := true, laidLooks := .later }
def MerkleClashesCardSaid : Prop := Claim7.holds Tryd.pinned (.plain (OpenSpec.ofChange merkleClashesSpec)) merkleClashesCard

/-- THE TIED CARD OF 'strongboxlaw19.MerkleFooled'. -/
def merkleFooledCard : Claim7 := { stood := { row := merkleFooledRow, standIns := [], harness := (true, "b9cd1f8807a48bc146d1744180080eff98311c85e41b0c56b41d25d4650495c0"), looks := false }, kinds := [], alts := [], laidByText := true, laidKinds := [.data, .data], laidTests := true, laidLooks := .later }
def MerkleFooledCardSaid : Prop := Claim7.holds Tryd.pinned (.plain (OpenSpec.ofChange merkleFooledSpec)) merkleFooledCard

/-- THE TIED CARD OF 'strongboxlaw19.MerkleGrownChecks'. -/
def merkleGrownChecksCard : Claim7 := { stood := { row := merkleGrownChecksRow, standIns := [], harness := (true, "b9cd1f8807a48bc146d1744180080eff98311c85e41b0c56b41d25d4650495c0"), looks := false }, kinds := [], alts := [], laidByText := true, laidKinds := [.data, .data], laidTests := true, laidLooks := .later }
def MerkleGrownChecksCardSaid : Prop := Claim7.holds Tryd.pinned (.plain (OpenSpec.ofChange merkleGrownChecksSpec)) merkleGrownChecksCard

/-- THE TIED CARD OF 'strongboxlaw19.MerkleTrees'. -/
def merkleTreesCard : Claim7 := { stood := { row := merkleTreesRow, standIns := [], harness := (true, "b9cd1f8807a48bc146d1744180080eff98311c85e41b0c56b41d25d4650495c0"), looks := false }, kinds := [], alts := [], laidByText := true, laidKinds := [.data, .data], laidTests := true, laidLooks := .later }
def MerkleTreesCardSaid : Prop := Claim7.holds Tryd.pinned (.plain (OpenSpec.ofChange merkleTreesSpec)) merkleTreesCard

/-- THE TIED CARD OF 'strongboxlaw19.MerkleGrows'. -/
def merkleGrowsCard : Claim7 := { stood := { row := merkleGrowsRow, standIns := [], harness := (true, "b9cd1f8807a48bc146d1744180080eff98311c85e41b0c56b41d25d4650495c0"), looks := false }, kinds := [], alts := [], laidByText := true, laidKinds := [.data, .data], laidTests := true, laidLooks := .later }
def MerkleGrowsCardSaid : Prop := Claim7.holds Tryd.pinned (.plain (OpenSpec.ofChange merkleGrowsSpec)) merkleGrowsCard

/-- THE TIED CARD OF 'strongboxlaw19.MerkleProves'. -/
def merkleProvesCard : Claim7 := { stood := { row := merkleProvesRow, standIns := [], harness := (true, "b9cd1f8807a48bc146d1744180080eff98311c85e41b0c56b41d25d4650495c0"), looks := false }, kinds := [], alts := [], laidByText := true, laidKinds := [.data, .data], laidTests := true, laidLooks := .later }
def MerkleProvesCardSaid : Prop := Claim7.holds Tryd.pinned (.plain (OpenSpec.ofChange merkleProvesSpec)) merkleProvesCard

/-- THE SECOND FORM's CARD OF 'strongboxlaw19.MerklePaths'. -/
def merklePathsUptoCard : Claim7 := { stood := { row := merklePathsUptoRow, standIns := [], harness := (true, "b9cd1f8807a48bc146d1744180080eff98311c85e41b0c56b41d25d4650495c0"), looks := false }, kinds := [], alts := [], laidByText := true, laidKinds := [.data, .data], laidTests := true, laidLooks := .later }
def MerklePathsUptoCardSaid : Prop := Claim7.holds Tryd.pinned (.plain (OpenSpec.upto merklePathsSpec)) merklePathsUptoCard

/-- THE SECOND FORM's CARD OF 'strongboxlaw19.MerkleChecks'. -/
def merkleChecksUptoCard : Claim7 := { stood := { row := merkleChecksUptoRow, standIns := [], harness := (true, "b9cd1f8807a48bc146d1744180080eff98311c85e41b0c56b41d25d4650495c0"), looks := false }, kinds := [], alts := [], laidByText := true, laidKinds := [.data, .data], laidTests := true, laidLooks := .later }
def MerkleChecksUptoCardSaid : Prop := Claim7.holds Tryd.pinned (.plain (OpenSpec.upto merkleChecksSpec)) merkleChecksUptoCard

/-- THE SECOND FORM's CARD OF 'strongboxlaw19.MerkleRoots'. -/
def merkleRootsUptoCard : Claim7 := { stood := { row := merkleRootsUptoRow, standIns := [], harness := (true, "b9cd1f8807a48bc146d1744180080eff98311c85e41b0c56b41d25d4650495c0"), looks := false }, kinds := [], alts := [], laidByText := true, laidKinds := [.data, .data], laidTests := true, laidLooks := .later }
def MerkleRootsUptoCardSaid : Prop := Claim7.holds Tryd.pinned (.plain (OpenSpec.upto merkleRootsSpec)) merkleRootsUptoCard

/-- THE SECOND FORM's CARD OF 'strongboxlaw19.MerkleBelow'. -/
def merkleBelowUptoCard : Claim7 := { stood := { row := merkleBelowUptoRow, standIns := [], harness := (true, "b9cd1f8807a48bc146d1744180080eff98311c85e41b0c56b41d25d4650495c0"), looks := false }, kinds := [], alts := [], laidByText := true, laidKinds := [.data, .data], laidTests := true, laidLooks := .later }
def MerkleBelowUptoCardSaid : Prop := Claim7.holds Tryd.pinned (.plain (OpenSpec.upto merkleBelowSpec)) merkleBelowUptoCard

/-- THE SECOND FORM's CARD OF 'strongboxlaw19.MerkleClashes'. -/
def merkleClashesUptoCard : Claim7 := { stood := { row := merkleClashesUptoRow, standIns := [], harness := (true, "b9cd1f8807a48bc146d1744180080eff98311c85e41b0c56b41d25d4650495c0"), looks := false }, kinds := [], alts := [], laidByText := true, laidKinds := [.data, .data], laidTests := true, laidLooks := .later }
def MerkleClashesUptoCardSaid : Prop := Claim7.holds Tryd.pinned (.plain (OpenSpec.upto merkleClashesSpec)) merkleClashesUptoCard

/-- THE SECOND FORM's CARD OF 'strongboxlaw19.MerkleFooled'. -/
def merkleFooledUptoCard : Claim7 := { stood := { row := merkleFooledUptoRow, standIns := [], harness := (true, "b9cd1f8807a48bc146d1744180080eff98311c85e41b0c56b41d25d4650495c0"), looks := false }, kinds := [], alts := [], laidByText := true, laidKinds := [.data, .data], laidTests := true, laidLooks := .later }
def MerkleFooledUptoCardSaid : Prop := Claim7.holds Tryd.pinned (.plain (OpenSpec.upto merkleFooledSpec)) merkleFooledUptoCard

/-- THE SECOND FORM's CARD OF 'strongboxlaw19.MerkleGrownChecks'. -/
def merkleGrownChecksUptoCard : Claim7 := { stood := { row := merkleGrownChecksUptoRow, standIns := [], harness := (true, "b9cd1f8807a48bc146d1744180080eff98311c85e41b0c56b41d25d4650495c0"), looks := false }, kinds := [], alts := [], laidByText := true, laidKinds := [.data, .data], laidTests := true, laidLooks := .later }
def MerkleGrownChecksUptoCardSaid : Prop := Claim7.holds Tryd.pinned (.plain (OpenSpec.upto merkleGrownChecksSpec)) merkleGrownChecksUptoCard

/-- THE SECOND FORM's CARD OF 'strongboxlaw19.MerkleTrees'. -/
def merkleTreesUptoCard : Claim7 := { stood := { row := merkleTreesUptoRow, standIns := [], harness := (true, "b9cd1f8807a48bc146d1744180080eff98311c85e41b0c56b41d25d4650495c0"), looks := false }, kinds := [], alts := [], laidByText := true, laidKinds := [.data, .data], laidTests := true, laidLooks := .later }
def MerkleTreesUptoCardSaid : Prop := Claim7.holds Tryd.pinned (.plain (OpenSpec.upto merkleTreesSpec)) merkleTreesUptoCard

/-- THE SECOND FORM's CARD OF 'strongboxlaw19.MerkleGrows'. -/
def merkleGrowsUptoCard : Claim7 := { stood := { row := merkleGrowsUptoRow, standIns := [], harness := (true, "b9cd1f8807a48bc146d1744180080eff98311c85e41b0c56b41d25d4650495c0"), looks := false }, kinds := [], alts := [], laidByText := true, laidKinds := [.data, .data], laidTests := true, laidLooks := .later }
def MerkleGrowsUptoCardSaid : Prop := Claim7.holds Tryd.pinned (.plain (OpenSpec.upto merkleGrowsSpec)) merkleGrowsUptoCard

/-- THE SECOND FORM's CARD OF 'strongboxlaw19.MerkleProves'. -/
def merkleProvesUptoCard : Claim7 := { stood := { row := merkleProvesUptoRow, standIns := [], harness := (true, "b9cd1f8807a48bc146d1744180080eff98311c85e41b0c56b41d25d4650495c0"), looks := false }, kinds := [], alts := [], laidByText := true, laidKinds := [.data, .data], laidTests := true, laidLooks := .later }
def MerkleProvesUptoCardSaid : Prop := Claim7.holds Tryd.pinned (.plain (OpenSpec.upto merkleProvesSpec)) merkleProvesUptoCard
end Rows
end Go.Proofs.YthhjmodkodkgpaaDoor
