/- Cells read from a place on. -/
import Derived.Test.YthhjmodkodkgpaaDoorProg
import Derived.WalkKit
namespace Go.Proofs.YthhjmodkodkgpaaDoor
open Go.RowKit
/-- n cells from A on, in a block below B, hold f 0, f 1, .. -/
def Reads (w : World) (B : Nat) (A : Option Addr) (n : Nat) (f : Nat → Value) : Prop :=
  ∀ i, i < n → ∃ b off, A = some ⟨b, off, none⟩ ∧ b < B ∧ w.cell? ⟨b, off + i, none⟩ = some (f i)
theorem Reads.below {w w' : World} {B : Nat} {A : Option Addr} {n : Nat} {f : Nat → Value} (h : Reads w B A n f) (hb : Below B w w') : Reads w' B A n f := fun i hi => by
  obtain ⟨b, off, e, hlt, hc⟩ := h i hi
  exact ⟨b, off, e, hlt, (hb.cell (p := ⟨b, off + i, none⟩) hlt).trans hc⟩
end Go.Proofs.YthhjmodkodkgpaaDoor
