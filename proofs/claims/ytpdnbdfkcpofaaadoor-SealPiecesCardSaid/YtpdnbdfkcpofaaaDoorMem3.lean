/- More single operations: texts cut. -/
import Derived.Test.YtpdnbdfkcpofaaaDoorMem2
import Derived.Laws.DeepStrings4
namespace Go.Proofs.YtpdnbdfkcpofaaaDoor
open Go.RowKit
theorem run_slice_str {P : Program} {t : TypeId} (ht : P.underlying t = some .string) (s : List UInt8) (k1 k2 : IntKind) (i j : Nat) (h1 : i ≤ j) (h2 : j ≤ s.length) (zi zj : Int) (e1 : zi = (i : Int)) (e2 : zj = (j : Int)) (w : World) :
    (Instr.slice t (.string ⟨s.toArray⟩) (some (.int k1 zi)) (some (.int k2 zj)) none).run P w = .ok (.string ⟨((s.drop i).take (j - i)).toArray⟩) w := by
  subst e1; subst e2
  have hs : (⟨s.toArray⟩ : ByteArray).size = s.length := rfl
  rw [run_slice_string_if w t _ k1 k2 (i : Int) (j : Int) ht, if_pos ⟨by omega, by rw [hs]; omega⟩, if_pos ⟨by omega, by omega⟩, Int.toNat_natCast, Int.toNat_natCast, str_extract]
end Go.Proofs.YtpdnbdfkcpofaaaDoor
namespace Go.Proofs.YtpdnbdfkcpofaaaDoor
open Go.RowKit
theorem run_slice_to {P : Program} {t : TypeId} (ht : P.underlying t = some .string) (s : List UInt8) (k2 : IntKind) (j : Nat) (h2 : j ≤ s.length) (zj : Int) (e2 : zj = (j : Int)) (w : World) :
    (Instr.slice t (.string ⟨s.toArray⟩) none (some (.int k2 zj)) none).run P w = .ok (.string ⟨(s.take j).toArray⟩) w := by
  subst e2
  have hs : (⟨s.toArray⟩ : ByteArray).size = s.length := rfl
  have h3 : (j : Int) ≤ ((⟨s.toArray⟩ : ByteArray).size : Int) := by rw [hs]; omega
  have h4 := str_extract s 0 j
  rw [List.drop_zero, Nat.sub_zero] at h4
  simp [Instr.slice, run_underlying ht, Instr.sliceBounds, run_sliceBound, h3, h4]
theorem run_slice_from {P : Program} {t : TypeId} (ht : P.underlying t = some .string) (s : List UInt8) (k2 : IntKind) (j : Nat) (h2 : j ≤ s.length) (zj : Int) (e2 : zj = (j : Int)) (w : World) :
    (Instr.slice t (.string ⟨s.toArray⟩) (some (.int k2 zj)) none none).run P w = .ok (.string ⟨(s.drop j).toArray⟩) w := by
  subst e2
  have hs : (⟨s.toArray⟩ : ByteArray).size = s.length := rfl
  have h4 := str_drop s j
  simp [Instr.slice, run_underlying ht, Instr.sliceBounds, run_sliceBound, hs, h4, h2]
end Go.Proofs.YtpdnbdfkcpofaaaDoor
