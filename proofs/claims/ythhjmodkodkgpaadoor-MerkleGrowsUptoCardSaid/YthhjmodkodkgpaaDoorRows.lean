/-
  NARROWER THAN 'FOR EVERY INPUT', by the rows' own cells (each row's printed sentence says how): MerklePaths: laid · MerkleChecks: laid · MerkleRoots: laid · MerkleBelow: laid · MerkleClashes: laid · MerkleFooled: laid · MerkleGrownChecks: laid · MerkleTrees: laid · MerkleGrows: laid · MerkleProves: laid.
  DERIVED. THE GIVEN ROWS OF THIS SEAT. 10 by the template 'for every input the law returns true; each argument reads behind the call as it read before'; 0 by the template 'total and deterministic' (their statements: YthhjmodkodkgpaaDoorTotals.lean).
  GIVEN WITH THE SEED: the statements are not yours to turn. If you find one false, say at which input.
  Laid BY PROGRAM, IN A SANDBOX (cutbox-rows.mjs): the forced cells as the released guide's own fill.sh prints them over the translation 2687c39b1c80f3ae… (all of the seat's roots in one cut). By AI agents, Wed Nov 11 2026. No macro, syntax, notation, axiom, sorry.
-/
import Derived.Test.YthhjmodkodkgpaaDoorChecked
import GoSem.Claim
import GoSem.ClaimJoined
import GoSem.ClaimMapViews
import Derived.JoinedTies
import Derived.KernelRfl
namespace Go.Proofs.YthhjmodkodkgpaaDoor
/- THE CELL 'sum', in the pinned program and in every row, IS THE sha256 OF THE DUMP (.gsa) THAT YthhjmodkodkgpaaDoorProg.lean LOADS. Nothing in Lean hashes anything: it is a label: what it is worth is what the hold of that sum in a sandbox is worth. -/
noncomputable def Tryd.pinned : Pinned := { name := "ythhjmodkodkgpaadoor", sum := "2687c39b1c80f3aef6600da8fb15e884497f2a694ea1e8e6cfe188d109e49c26", checked := Tryd.checked }
namespace Rows
def none {H : Type} : Left H := { results := [], args := [] }

/- WHAT THE LISTED PACKAGE-LEVEL VARIABLES READ AS WHEN THE CALL BEGINS. Each datum BY PROGRAM (the guide's laid-datum.mjs) off the statement by which the dump's own 'gosem.cut.vars' lays the variable. In a bare row this is a premise. The card (YthhjmodkodkgpaaDoorCards.lean) ties it to the program's text. -/
def laid_strongbox_hash_first {H : Type} : DataW H := .agg [.lit (.int .u32 1779033703), .lit (.int .u32 3144134277), .lit (.int .u32 1013904242), .lit (.int .u32 2773480762), .lit (.int .u32 1359893119), .lit (.int .u32 2600822924), .lit (.int .u32 528734635), .lit (.int .u32 1541459225)]
def laid_strongbox_hash_cubes {H : Type} : DataW H := .agg [.lit (.int .u32 1116352408), .lit (.int .u32 1899447441), .lit (.int .u32 3049323471), .lit (.int .u32 3921009573), .lit (.int .u32 961987163), .lit (.int .u32 1508970993), .lit (.int .u32 2453635748), .lit (.int .u32 2870763221), .lit (.int .u32 3624381080), .lit (.int .u32 310598401), .lit (.int .u32 607225278), .lit (.int .u32 1426881987), .lit (.int .u32 1925078388), .lit (.int .u32 2162078206), .lit (.int .u32 2614888103), .lit (.int .u32 3248222580), .lit (.int .u32 3835390401), .lit (.int .u32 4022224774), .lit (.int .u32 264347078), .lit (.int .u32 604807628), .lit (.int .u32 770255983), .lit (.int .u32 1249150122), .lit (.int .u32 1555081692), .lit (.int .u32 1996064986), .lit (.int .u32 2554220882), .lit (.int .u32 2821834349), .lit (.int .u32 2952996808), .lit (.int .u32 3210313671), .lit (.int .u32 3336571891), .lit (.int .u32 3584528711), .lit (.int .u32 113926993), .lit (.int .u32 338241895), .lit (.int .u32 666307205), .lit (.int .u32 773529912), .lit (.int .u32 1294757372), .lit (.int .u32 1396182291), .lit (.int .u32 1695183700), .lit (.int .u32 1986661051), .lit (.int .u32 2177026350), .lit (.int .u32 2456956037), .lit (.int .u32 2730485921), .lit (.int .u32 2820302411), .lit (.int .u32 3259730800), .lit (.int .u32 3345764771), .lit (.int .u32 3516065817), .lit (.int .u32 3600352804), .lit (.int .u32 4094571909), .lit (.int .u32 275423344), .lit (.int .u32 430227734), .lit (.int .u32 506948616), .lit (.int .u32 659060556), .lit (.int .u32 883997877), .lit (.int .u32 958139571), .lit (.int .u32 1322822218), .lit (.int .u32 1537002063), .lit (.int .u32 1747873779), .lit (.int .u32 1955562222), .lit (.int .u32 2024104815), .lit (.int .u32 2227730452), .lit (.int .u32 2361852424), .lit (.int .u32 2428436474), .lit (.int .u32 2756734187), .lit (.int .u32 3204031479), .lit (.int .u32 3329325298)]

/-- 'strongboxlaw19.MerklePaths': WHATEVER THE INPUT: true; the input reads as it did. -/
def merklePathsSpec : ChangeSpec := { name := "merklePaths", fn := fun _ => fun
  | [d1, d2] => { results := [.lit (.bool true)], args := [d1, d2] }
  | _ => none }
def merklePathsRow : OpenClaim := { program := "ythhjmodkodkgpaadoor", sum := "2687c39b1c80f3aef6600da8fb15e884497f2a694ea1e8e6cfe188d109e49c26", func := "strongbox/strongboxlaw19.MerklePaths", spec := "merklePaths", unfollowed := true, recurses := true, named := ["strongbox/hash.first", "strongbox/hash.cubes"], apart := false, laid := [("strongbox/hash.first", laid_strongbox_hash_first), ("strongbox/hash.cubes", laid_strongbox_hash_cubes)] }
def MerklePathsSaid : Prop := merklePathsRow.holds Tryd.pinned (OpenSpec.ofChange merklePathsSpec)

/-- ITS FALSE NEIGHBOUR: 'it returns false'. Refute it at one input. -/
def merklePathsWrong : ChangeSpec := { name := "merklePaths", fn := fun _ => fun
  | [d1, d2] => { results := [.lit (.bool false)], args := [d1, d2] }
  | _ => none }
def MerklePathsWrongFalsely : Prop := merklePathsRow.holds Tryd.pinned (OpenSpec.ofChange merklePathsWrong)

/-- 'strongboxlaw19.MerkleChecks': WHATEVER THE INPUT: true; the input reads as it did. -/
def merkleChecksSpec : ChangeSpec := { name := "merkleChecks", fn := fun _ => fun
  | [d1, d2, d3, d4, d5] => { results := [.lit (.bool true)], args := [d1, d2, d3, d4, d5] }
  | _ => none }
def merkleChecksRow : OpenClaim := { program := "ythhjmodkodkgpaadoor", sum := "2687c39b1c80f3aef6600da8fb15e884497f2a694ea1e8e6cfe188d109e49c26", func := "strongbox/strongboxlaw19.MerkleChecks", spec := "merkleChecks", unfollowed := true, recurses := true, named := ["strongbox/hash.first", "strongbox/hash.cubes"], apart := false, laid := [("strongbox/hash.first", laid_strongbox_hash_first), ("strongbox/hash.cubes", laid_strongbox_hash_cubes)] }
def MerkleChecksSaid : Prop := merkleChecksRow.holds Tryd.pinned (OpenSpec.ofChange merkleChecksSpec)

/-- ITS FALSE NEIGHBOUR: 'it returns false'. Refute it at one input. -/
def merkleChecksWrong : ChangeSpec := { name := "merkleChecks", fn := fun _ => fun
  | [d1, d2, d3, d4, d5] => { results := [.lit (.bool false)], args := [d1, d2, d3, d4, d5] }
  | _ => none }
def MerkleChecksWrongFalsely : Prop := merkleChecksRow.holds Tryd.pinned (OpenSpec.ofChange merkleChecksWrong)

/-- 'strongboxlaw19.MerkleRoots': WHATEVER THE INPUT: true; the input reads as it did. -/
def merkleRootsSpec : ChangeSpec := { name := "merkleRoots", fn := fun _ => fun
  | [d1, d2, d3, d4] => { results := [.lit (.bool true)], args := [d1, d2, d3, d4] }
  | _ => none }
def merkleRootsRow : OpenClaim := { program := "ythhjmodkodkgpaadoor", sum := "2687c39b1c80f3aef6600da8fb15e884497f2a694ea1e8e6cfe188d109e49c26", func := "strongbox/strongboxlaw19.MerkleRoots", spec := "merkleRoots", unfollowed := true, recurses := true, named := ["strongbox/hash.first", "strongbox/hash.cubes"], apart := false, laid := [("strongbox/hash.first", laid_strongbox_hash_first), ("strongbox/hash.cubes", laid_strongbox_hash_cubes)] }
def MerkleRootsSaid : Prop := merkleRootsRow.holds Tryd.pinned (OpenSpec.ofChange merkleRootsSpec)

/-- ITS FALSE NEIGHBOUR: 'it returns false'. Refute it at one input. -/
def merkleRootsWrong : ChangeSpec := { name := "merkleRoots", fn := fun _ => fun
  | [d1, d2, d3, d4] => { results := [.lit (.bool false)], args := [d1, d2, d3, d4] }
  | _ => none }
def MerkleRootsWrongFalsely : Prop := merkleRootsRow.holds Tryd.pinned (OpenSpec.ofChange merkleRootsWrong)

/-- 'strongboxlaw19.MerkleBelow': WHATEVER THE INPUT: true; the input reads as it did. -/
def merkleBelowSpec : ChangeSpec := { name := "merkleBelow", fn := fun _ => fun
  | [d1, d2, d3] => { results := [.lit (.bool true)], args := [d1, d2, d3] }
  | _ => none }
def merkleBelowRow : OpenClaim := { program := "ythhjmodkodkgpaadoor", sum := "2687c39b1c80f3aef6600da8fb15e884497f2a694ea1e8e6cfe188d109e49c26", func := "strongbox/strongboxlaw19.MerkleBelow", spec := "merkleBelow", unfollowed := true, recurses := true, named := ["strongbox/hash.first", "strongbox/hash.cubes"], apart := false, laid := [("strongbox/hash.first", laid_strongbox_hash_first), ("strongbox/hash.cubes", laid_strongbox_hash_cubes)] }
def MerkleBelowSaid : Prop := merkleBelowRow.holds Tryd.pinned (OpenSpec.ofChange merkleBelowSpec)

/-- ITS FALSE NEIGHBOUR: 'it returns false'. Refute it at one input. -/
def merkleBelowWrong : ChangeSpec := { name := "merkleBelow", fn := fun _ => fun
  | [d1, d2, d3] => { results := [.lit (.bool false)], args := [d1, d2, d3] }
  | _ => none }
def MerkleBelowWrongFalsely : Prop := merkleBelowRow.holds Tryd.pinned (OpenSpec.ofChange merkleBelowWrong)

/-- 'strongboxlaw19.MerkleClashes': WHATEVER THE INPUT: true; the input reads as it did. -/
def merkleClashesSpec : ChangeSpec := { name := "merkleClashes", fn := fun _ => fun
  | [d1, d2, d3, d4, d5, d6, d7] => { results := [.lit (.bool true)], args := [d1, d2, d3, d4, d5, d6, d7] }
  | _ => none }
def merkleClashesRow : OpenClaim := { program := "ythhjmodkodkgpaadoor", sum := "2687c39b1c80f3aef6600da8fb15e884497f2a694ea1e8e6cfe188d109e49c26", func := "strongbox/strongboxlaw19.MerkleClashes", spec := "merkleClashes", unfollowed := true, recurses := true, named := ["strongbox/hash.first", "strongbox/hash.cubes"], apart := false, laid := [("strongbox/hash.first", laid_strongbox_hash_first), ("strongbox/hash.cubes", laid_strongbox_hash_cubes)] }
def MerkleClashesSaid : Prop := merkleClashesRow.holds Tryd.pinned (OpenSpec.ofChange merkleClashesSpec)

/-- ITS FALSE NEIGHBOUR: 'it returns false'. Refute it at one input. -/
def merkleClashesWrong : ChangeSpec := { name := "merkleClashes", fn := fun _ => fun
  | [d1, d2, d3, d4, d5, d6, d7] => { results := [.lit (.bool false)], args := [d1, d2, d3, d4, d5, d6, d7] }
  | _ => none }
def MerkleClashesWrongFalsely : Prop := merkleClashesRow.holds Tryd.pinned (OpenSpec.ofChange merkleClashesWrong)

/-- 'strongboxlaw19.MerkleFooled': WHATEVER THE INPUT: true; the input reads as it did. -/
def merkleFooledSpec : ChangeSpec := { name := "merkleFooled", fn := fun _ => fun
  | [d1, d2, d3, d4, d5, d6, d7] => { results := [.lit (.bool true)], args := [d1, d2, d3, d4, d5, d6, d7] }
  | _ => none }
def merkleFooledRow : OpenClaim := { program := "ythhjmodkodkgpaadoor", sum := "2687c39b1c80f3aef6600da8fb15e884497f2a694ea1e8e6cfe188d109e49c26", func := "strongbox/strongboxlaw19.MerkleFooled", spec := "merkleFooled", unfollowed := true, recurses := true, named := ["strongbox/hash.first", "strongbox/hash.cubes"], apart := false, laid := [("strongbox/hash.first", laid_strongbox_hash_first), ("strongbox/hash.cubes", laid_strongbox_hash_cubes)] }
def MerkleFooledSaid : Prop := merkleFooledRow.holds Tryd.pinned (OpenSpec.ofChange merkleFooledSpec)

/-- ITS FALSE NEIGHBOUR: 'it returns false'. Refute it at one input. -/
def merkleFooledWrong : ChangeSpec := { name := "merkleFooled", fn := fun _ => fun
  | [d1, d2, d3, d4, d5, d6, d7] => { results := [.lit (.bool false)], args := [d1, d2, d3, d4, d5, d6, d7] }
  | _ => none }
def MerkleFooledWrongFalsely : Prop := merkleFooledRow.holds Tryd.pinned (OpenSpec.ofChange merkleFooledWrong)

/-- 'strongboxlaw19.MerkleGrownChecks': WHATEVER THE INPUT: true; the input reads as it did. -/
def merkleGrownChecksSpec : ChangeSpec := { name := "merkleGrownChecks", fn := fun _ => fun
  | [d1, d2, d3, d4, d5] => { results := [.lit (.bool true)], args := [d1, d2, d3, d4, d5] }
  | _ => none }
def merkleGrownChecksRow : OpenClaim := { program := "ythhjmodkodkgpaadoor", sum := "2687c39b1c80f3aef6600da8fb15e884497f2a694ea1e8e6cfe188d109e49c26", func := "strongbox/strongboxlaw19.MerkleGrownChecks", spec := "merkleGrownChecks", unfollowed := true, recurses := true, named := ["strongbox/hash.first", "strongbox/hash.cubes"], apart := false, laid := [("strongbox/hash.first", laid_strongbox_hash_first), ("strongbox/hash.cubes", laid_strongbox_hash_cubes)] }
def MerkleGrownChecksSaid : Prop := merkleGrownChecksRow.holds Tryd.pinned (OpenSpec.ofChange merkleGrownChecksSpec)

/-- ITS FALSE NEIGHBOUR: 'it returns false'. Refute it at one input. -/
def merkleGrownChecksWrong : ChangeSpec := { name := "merkleGrownChecks", fn := fun _ => fun
  | [d1, d2, d3, d4, d5] => { results := [.lit (.bool false)], args := [d1, d2, d3, d4, d5] }
  | _ => none }
def MerkleGrownChecksWrongFalsely : Prop := merkleGrownChecksRow.holds Tryd.pinned (OpenSpec.ofChange merkleGrownChecksWrong)

/-- 'strongboxlaw19.MerkleTrees': WHATEVER THE INPUT: true; the input reads as it did. -/
def merkleTreesSpec : ChangeSpec := { name := "merkleTrees", fn := fun _ => fun
  | [d] => { results := [.lit (.bool true)], args := [d] }
  | _ => none }
def merkleTreesRow : OpenClaim := { program := "ythhjmodkodkgpaadoor", sum := "2687c39b1c80f3aef6600da8fb15e884497f2a694ea1e8e6cfe188d109e49c26", func := "strongbox/strongboxlaw19.MerkleTrees", spec := "merkleTrees", unfollowed := true, recurses := true, named := ["strongbox/hash.first", "strongbox/hash.cubes"], apart := false, laid := [("strongbox/hash.first", laid_strongbox_hash_first), ("strongbox/hash.cubes", laid_strongbox_hash_cubes)] }
def MerkleTreesSaid : Prop := merkleTreesRow.holds Tryd.pinned (OpenSpec.ofChange merkleTreesSpec)

/-- ITS FALSE NEIGHBOUR: 'it returns false'. Refute it at one input. -/
def merkleTreesWrong : ChangeSpec := { name := "merkleTrees", fn := fun _ => fun
  | [d] => { results := [.lit (.bool false)], args := [d] }
  | _ => none }
def MerkleTreesWrongFalsely : Prop := merkleTreesRow.holds Tryd.pinned (OpenSpec.ofChange merkleTreesWrong)

/-- 'strongboxlaw19.MerkleGrows': WHATEVER THE INPUT: true; the input reads as it did. -/
def merkleGrowsSpec : ChangeSpec := { name := "merkleGrows", fn := fun _ => fun
  | [d1, d2] => { results := [.lit (.bool true)], args := [d1, d2] }
  | _ => none }
def merkleGrowsRow : OpenClaim := { program := "ythhjmodkodkgpaadoor", sum := "2687c39b1c80f3aef6600da8fb15e884497f2a694ea1e8e6cfe188d109e49c26", func := "strongbox/strongboxlaw19.MerkleGrows", spec := "merkleGrows", unfollowed := true, recurses := true, named := ["strongbox/hash.first", "strongbox/hash.cubes"], apart := false, laid := [("strongbox/hash.first", laid_strongbox_hash_first), ("strongbox/hash.cubes", laid_strongbox_hash_cubes)] }
def MerkleGrowsSaid : Prop := merkleGrowsRow.holds Tryd.pinned (OpenSpec.ofChange merkleGrowsSpec)

/-- ITS FALSE NEIGHBOUR: 'it returns false'. Refute it at one input. -/
def merkleGrowsWrong : ChangeSpec := { name := "merkleGrows", fn := fun _ => fun
  | [d1, d2] => { results := [.lit (.bool false)], args := [d1, d2] }
  | _ => none }
def MerkleGrowsWrongFalsely : Prop := merkleGrowsRow.holds Tryd.pinned (OpenSpec.ofChange merkleGrowsWrong)

/-- 'strongboxlaw19.MerkleProves': WHATEVER THE INPUT: true; the input reads as it did. -/
def merkleProvesSpec : ChangeSpec := { name := "merkleProves", fn := fun _ => fun
  | [d1, d2, d3] => { results := [.lit (.bool true)], args := [d1, d2, d3] }
  | _ => none }
def merkleProvesRow : OpenClaim := { program := "ythhjmodkodkgpaadoor", sum := "2687c39b1c80f3aef6600da8fb15e884497f2a694ea1e8e6cfe188d109e49c26", func := "strongbox/strongboxlaw19.MerkleProves", spec := "merkleProves", unfollowed := true, recurses := true, named := ["strongbox/hash.first", "strongbox/hash.cubes"], apart := false, laid := [("strongbox/hash.first", laid_strongbox_hash_first), ("strongbox/hash.cubes", laid_strongbox_hash_cubes)] }
def MerkleProvesSaid : Prop := merkleProvesRow.holds Tryd.pinned (OpenSpec.ofChange merkleProvesSpec)

/-- ITS FALSE NEIGHBOUR: 'it returns false'. Refute it at one input. -/
def merkleProvesWrong : ChangeSpec := { name := "merkleProves", fn := fun _ => fun
  | [d1, d2, d3] => { results := [.lit (.bool false)], args := [d1, d2, d3] }
  | _ => none }
def MerkleProvesWrongFalsely : Prop := merkleProvesRow.holds Tryd.pinned (OpenSpec.ofChange merkleProvesWrong)

/- THE SECOND FORM. 'bulk': how many values and letters a reading holds, each counted each time it is reached (what is shared counts as often as it is met; a slice's spare places count too). A statement '..UptoSaid' is the law's where the arguments, and the package variables that the reading takes, are together of bulk at most 1048576: NARROWER than '..Said'. Prove '..Said' where nothing that the law and all that it calls make is longer than what came in: it says more and counts as full. Else prove '..UptoSaid'. A law counts once. -/
mutual
def uptoBulk {H : Type} : DataW H → Nat
  | .lit (.string bytes) => bytes.length + 1
  | .lit _ => 1
  | .nil => 1
  | .ptr d => uptoBulk d + 1
  | .slice elems spare => uptoBulkAll elems + uptoBulkAll spare + 1
  | .agg parts => uptoBulkAll parts + 1
  | .iface _ d => uptoBulk d + 1
  | .map entries => uptoBulkEntries entries + 1
  | .held _ => 1
def uptoBulkAll {H : Type} : List (DataW H) → Nat
  | [] => 0
  | d :: r => uptoBulk d + uptoBulkAll r
def uptoBulkEntries {H : Type} : List (Lit × DataW H) → Nat
  | [] => 0
  | x :: r => uptoBulkEntry x + uptoBulkEntries r
def uptoBulkEntry {H : Type} : Lit × DataW H → Nat
  | (.string bytes, d) => bytes.length + uptoBulk d + 1
  | (_, d) => uptoBulk d + 1
 end
def uptoSmall : (H : Type) → List (DataW H) → Bool := fun _ ds => decide (uptoBulkAll ds ≤ 1048576)
def OpenSpec.upto (s : _root_.Go.ChangeSpec) : _root_.Go.OpenSpec := { _root_.Go.OpenSpec.ofChange s with cond := some uptoSmall }

/-- 'strongboxlaw19.MerklePaths', WHERE WHAT IT READS IS OF BULK AT MOST 1048576: true; the input reads as it did. -/
def merklePathsUptoRow : OpenClaim := { program := "ythhjmodkodkgpaadoor", sum := "2687c39b1c80f3aef6600da8fb15e884497f2a694ea1e8e6cfe188d109e49c26", func := "strongbox/strongboxlaw19.MerklePaths", spec := "merklePaths", unfollowed := true, recurses := true, named := ["strongbox/hash.first", "strongbox/hash.cubes"], apart := false, laid := [("strongbox/hash.first", laid_strongbox_hash_first), ("strongbox/hash.cubes", laid_strongbox_hash_cubes)], narrowed := true }
def MerklePathsUptoSaid : Prop := merklePathsUptoRow.holds Tryd.pinned (OpenSpec.upto merklePathsSpec)

/-- 'strongboxlaw19.MerkleChecks', WHERE WHAT IT READS IS OF BULK AT MOST 1048576: true; the input reads as it did. -/
def merkleChecksUptoRow : OpenClaim := { program := "ythhjmodkodkgpaadoor", sum := "2687c39b1c80f3aef6600da8fb15e884497f2a694ea1e8e6cfe188d109e49c26", func := "strongbox/strongboxlaw19.MerkleChecks", spec := "merkleChecks", unfollowed := true, recurses := true, named := ["strongbox/hash.first", "strongbox/hash.cubes"], apart := false, laid := [("strongbox/hash.first", laid_strongbox_hash_first), ("strongbox/hash.cubes", laid_strongbox_hash_cubes)], narrowed := true }
def MerkleChecksUptoSaid : Prop := merkleChecksUptoRow.holds Tryd.pinned (OpenSpec.upto merkleChecksSpec)

/-- 'strongboxlaw19.MerkleRoots', WHERE WHAT IT READS IS OF BULK AT MOST 1048576: true; the input reads as it did. -/
def merkleRootsUptoRow : OpenClaim := { program := "ythhjmodkodkgpaadoor", sum := "2687c39b1c80f3aef6600da8fb15e884497f2a694ea1e8e6cfe188d109e49c26", func := "strongbox/strongboxlaw19.MerkleRoots", spec := "merkleRoots", unfollowed := true, recurses := true, named := ["strongbox/hash.first", "strongbox/hash.cubes"], apart := false, laid := [("strongbox/hash.first", laid_strongbox_hash_first), ("strongbox/hash.cubes", laid_strongbox_hash_cubes)], narrowed := true }
def MerkleRootsUptoSaid : Prop := merkleRootsUptoRow.holds Tryd.pinned (OpenSpec.upto merkleRootsSpec)

/-- 'strongboxlaw19.MerkleBelow', WHERE WHAT IT READS IS OF BULK AT MOST 1048576: true; the input reads as it did. -/
def merkleBelowUptoRow : OpenClaim := { program := "ythhjmodkodkgpaadoor", sum := "2687c39b1c80f3aef6600da8fb15e884497f2a694ea1e8e6cfe188d109e49c26", func := "strongbox/strongboxlaw19.MerkleBelow", spec := "merkleBelow", unfollowed := true, recurses := true, named := ["strongbox/hash.first", "strongbox/hash.cubes"], apart := false, laid := [("strongbox/hash.first", laid_strongbox_hash_first), ("strongbox/hash.cubes", laid_strongbox_hash_cubes)], narrowed := true }
def MerkleBelowUptoSaid : Prop := merkleBelowUptoRow.holds Tryd.pinned (OpenSpec.upto merkleBelowSpec)

/-- 'strongboxlaw19.MerkleClashes', WHERE WHAT IT READS IS OF BULK AT MOST 1048576: true; the input reads as it did. -/
def merkleClashesUptoRow : OpenClaim := { program := "ythhjmodkodkgpaadoor", sum := "2687c39b1c80f3aef6600da8fb15e884497f2a694ea1e8e6cfe188d109e49c26", func := "strongbox/strongboxlaw19.MerkleClashes", spec := "merkleClashes", unfollowed := true, recurses := true, named := ["strongbox/hash.first", "strongbox/hash.cubes"], apart := false, laid := [("strongbox/hash.first", laid_strongbox_hash_first), ("strongbox/hash.cubes", laid_strongbox_hash_cubes)], narrowed := true }
def MerkleClashesUptoSaid : Prop := merkleClashesUptoRow.holds Tryd.pinned (OpenSpec.upto merkleClashesSpec)

/-- 'strongboxlaw19.MerkleFooled', WHERE WHAT IT READS IS OF BULK AT MOST 1048576: true; the input reads as it did. -/
def merkleFooledUptoRow : OpenClaim := { program := "ythhjmodkodkgpaadoor", sum := "2687c39b1c80f3aef6600da8fb15e884497f2a694ea1e8e6cfe188d109e49c26", func := "strongbox/strongboxlaw19.MerkleFooled", spec := "merkleFooled", unfollowed := true, recurses := true, named := ["strongbox/hash.first", "strongbox/hash.cubes"], apart := false, laid := [("strongbox/hash.first", laid_strongbox_hash_first), ("strongbox/hash.cubes", laid_strongbox_hash_cubes)], narrowed := true }
def MerkleFooledUptoSaid : Prop := merkleFooledUptoRow.holds Tryd.pinned (OpenSpec.upto merkleFooledSpec)

/-- 'strongboxlaw19.MerkleGrownChecks', WHERE WHAT IT READS IS OF BULK AT MOST 1048576: true; the input reads as it did. -/
def merkleGrownChecksUptoRow : OpenClaim := { program := "ythhjmodkodkgpaadoor", sum := "2687c39b1c80f3aef6600da8fb15e884497f2a694ea1e8e6cfe188d109e49c26", func := "strongbox/strongboxlaw19.MerkleGrownChecks", spec := "merkleGrownChecks", unfollowed := true, recurses := true, named := ["strongbox/hash.first", "strongbox/hash.cubes"], apart := false, laid := [("strongbox/hash.first", laid_strongbox_hash_first), ("strongbox/hash.cubes", laid_strongbox_hash_cubes)], narrowed := true }
def MerkleGrownChecksUptoSaid : Prop := merkleGrownChecksUptoRow.holds Tryd.pinned (OpenSpec.upto merkleGrownChecksSpec)

/-- 'strongboxlaw19.MerkleTrees', WHERE WHAT IT READS IS OF BULK AT MOST 1048576: true; the input reads as it did. -/
def merkleTreesUptoRow : OpenClaim := { program := "ythhjmodkodkgpaadoor", sum := "2687c39b1c80f3aef6600da8fb15e884497f2a694ea1e8e6cfe188d109e49c26", func := "strongbox/strongboxlaw19.MerkleTrees", spec := "merkleTrees", unfollowed := true, recurses := true, named := ["strongbox/hash.first", "strongbox/hash.cubes"], apart := false, laid := [("strongbox/hash.first", laid_strongbox_hash_first), ("strongbox/hash.cubes", laid_strongbox_hash_cubes)], narrowed := true }
def MerkleTreesUptoSaid : Prop := merkleTreesUptoRow.holds Tryd.pinned (OpenSpec.upto merkleTreesSpec)

/-- 'strongboxlaw19.MerkleGrows', WHERE WHAT IT READS IS OF BULK AT MOST 1048576: true; the input reads as it did. -/
def merkleGrowsUptoRow : OpenClaim := { program := "ythhjmodkodkgpaadoor", sum := "2687c39b1c80f3aef6600da8fb15e884497f2a694ea1e8e6cfe188d109e49c26", func := "strongbox/strongboxlaw19.MerkleGrows", spec := "merkleGrows", unfollowed := true, recurses := true, named := ["strongbox/hash.first", "strongbox/hash.cubes"], apart := false, laid := [("strongbox/hash.first", laid_strongbox_hash_first), ("strongbox/hash.cubes", laid_strongbox_hash_cubes)], narrowed := true }
def MerkleGrowsUptoSaid : Prop := merkleGrowsUptoRow.holds Tryd.pinned (OpenSpec.upto merkleGrowsSpec)

/-- 'strongboxlaw19.MerkleProves', WHERE WHAT IT READS IS OF BULK AT MOST 1048576: true; the input reads as it did. -/
def merkleProvesUptoRow : OpenClaim := { program := "ythhjmodkodkgpaadoor", sum := "2687c39b1c80f3aef6600da8fb15e884497f2a694ea1e8e6cfe188d109e49c26", func := "strongbox/strongboxlaw19.MerkleProves", spec := "merkleProves", unfollowed := true, recurses := true, named := ["strongbox/hash.first", "strongbox/hash.cubes"], apart := false, laid := [("strongbox/hash.first", laid_strongbox_hash_first), ("strongbox/hash.cubes", laid_strongbox_hash_cubes)], narrowed := true }
def MerkleProvesUptoSaid : Prop := merkleProvesUptoRow.holds Tryd.pinned (OpenSpec.upto merkleProvesSpec)

end Rows
end Go.Proofs.YthhjmodkodkgpaaDoor
