/- More single operations: texts cut. -/
import Derived.Test.YticmnckkhbniaaaDoorMem2
import Derived.Laws.DeepStrings4
namespace Go.Proofs.YticmnckkhbniaaaDoor
open Go.RowKit
theorem run_slice_str {P : Program} {t : TypeId} (ht : P.underlying t = some .string) (s : List UInt8) (k1 k2 : IntKind) (i j : Nat) (h1 : i ≤ j) (h2 : j ≤ s.length) (zi zj : Int) (e1 : zi = (i : Int)) (e2 : zj = (j : Int)) (w : World) :
    (Instr.slice t (.string ⟨s.toArray⟩) (some (.int k1 zi)) (some (.int k2 zj)) none).run P w = .ok (.string ⟨((s.drop i).take (j - i)).toArray⟩) w := by
  subst e1; subst e2
  have hs : (⟨s.toArray⟩ : ByteArray).size = s.length := rfl
  rw [run_slice_string_if w t _ k1 k2 (i : Int) (j : Int) ht, if_pos ⟨by omega, by rw [hs]; omega⟩, if_pos ⟨by omega, by omega⟩, Int.toNat_natCast, Int.toNat_natCast, str_extract]
end Go.Proofs.YticmnckkhbniaaaDoor
