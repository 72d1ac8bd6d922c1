/- What the listed variables read as gives the two tables' cells. -/
import Derived.Test.YthhjmodkodkgpaaDoorRows
import Derived.Test.YthhjmodkodkgpaaDoorWSum
import Derived.ProofKit
import Derived.OpenShut
import Derived.LaidMore
import Derived.Lay
import Derived.Stop.Joined
namespace Go.Proofs.YthhjmodkodkgpaaDoor
open Go.ChangeShapes Go.WideShapes Go.ChangeAt Go.RowKit Sbx

def laidTwo : List (String × DataW Unit) := [("strongbox/hash.first", Rows.laid_strongbox_hash_first), ("strongbox/hash.cubes", Rows.laid_strongbox_hash_cubes)]
theorem first_lits : (Rows.laid_strongbox_hash_first : DataW Unit) = .agg ((stl iv).map fun n => .lit (.int .u32 ((n : Nat) : Int))) := by kernel_rfl
theorem cubes_lits : (Rows.laid_strongbox_hash_cubes : DataW Unit) = .agg (ks.map fun n => .lit (.int .u32 ((n : Nat) : Int))) := by kernel_rfl
theorem glob_of_laid {W : World} (h : laidMetH Tryd.prog laidTwo W) : Glob W := by
  rw [MakeChecks.laidMetH_plain _ _ _ (by kernel_rfl)] at h
  obtain ⟨ps, ⟨g0, t0, cs0, f0, p0, q0, hg0, ht0, hv0, hd0, ⟨g1, t1, cs1, f1, p1, q1, hg1, ht1, hv1, hd1, _, _⟩, _⟩, _, _⟩ := h
  obtain rfl := Option.some.inj ((show Tryd.prog.globalNamed "strongbox/hash.first" = some 0 by kernel_rfl).symm.trans hg0)
  obtain rfl := Option.some.inj ((show Tryd.prog.globalNamed "strongbox/hash.cubes" = some 1 by kernel_rfl).symm.trans hg1)
  obtain rfl := Option.some.inj ((show (Tryd.prog.globals[0]?).map (·.type) = some 95 by kernel_rfl).symm.trans ht0)
  obtain rfl := Option.some.inj ((show (Tryd.prog.globals[1]?).map (·.type) = some 72 by kernel_rfl).symm.trans ht1)
  rw [first_lits] at hd0
  rw [cubes_lits] at hd1
  have c5 : Tryd.prog.cellsOf 69 = 1 := by kernel_rfl
  refine ⟨fun r hr => ?_, fun r hr => ?_⟩
  · obtain ⟨xs, m, _, ex, _, hl, hel⟩ := DataW.trod_array Tryd.underlying72 hd1
    have hE := hel r hr
    rw [c5, Nat.mul_one, List.getElem?_eq_getElem (by omega)] at hE
    obtain ⟨z, e1, e2, _⟩ := DataW.trod_int Tryd.underlying69 hE
    have hlen : (ks).length = 64 := rfl
    have e3 : (xs.map (·.1)) = (ks).map fun n => .lit (.int .u32 ((n : Nat) : Int)) := (DataW.agg.inj (Prod.mk.inj ex).1).symm
    have e4 : (xs.map (·.1))[r]? = ((ks).map fun n => (DataW.lit (.int .u32 ((n : Nat) : Int)) : DataW Unit))[r]? := by rw [e3]
    rw [List.getElem?_map, List.getElem?_map, List.getElem?_eq_getElem (by omega : r < xs.length), List.getElem?_eq_getElem (by omega : r < (ks).length), e2] at e4
    have hz : z = (((ks).getD r 0 : Nat) : Int) := by
      simp only [Option.map_some, Option.some.injEq, DataW.lit.injEq, Lit.int.injEq, true_and] at e4
      rw [e4, List.getD, List.getElem?_eq_getElem (by omega : r < (ks).length)]; rfl
    rw [World.var?_cell hg1 hv1 r, ← hz]
    have : cs1.toList[r]? = some (.int .u32 z) := by
      have h0 : ((cs1.toList.drop r).take 1)[0]? = some (.int .u32 z) := by rw [e1]; rfl
      simpa using h0
    simpa using this
  · obtain ⟨xs, m, _, ex, _, hl, hel⟩ := DataW.trod_array Tryd.underlying95 hd0
    have hE := hel r hr
    rw [c5, Nat.mul_one, List.getElem?_eq_getElem (by omega)] at hE
    obtain ⟨z, e1, e2, _⟩ := DataW.trod_int Tryd.underlying69 hE
    have hlen : (stl iv).length = 8 := rfl
    have e3 : (xs.map (·.1)) = (stl iv).map fun n => .lit (.int .u32 ((n : Nat) : Int)) := (DataW.agg.inj (Prod.mk.inj ex).1).symm
    have e4 : (xs.map (·.1))[r]? = ((stl iv).map fun n => (DataW.lit (.int .u32 ((n : Nat) : Int)) : DataW Unit))[r]? := by rw [e3]
    rw [List.getElem?_map, List.getElem?_map, List.getElem?_eq_getElem (by omega : r < xs.length), List.getElem?_eq_getElem (by omega : r < (stl iv).length), e2] at e4
    have hz : z = (((stl iv).getD r 0 : Nat) : Int) := by
      simp only [Option.map_some, Option.some.injEq, DataW.lit.injEq, Lit.int.injEq, true_and] at e4
      rw [e4, List.getD, List.getElem?_eq_getElem (by omega : r < (stl iv).length)]; rfl
    rw [World.var?_cell hg0 hv0 r, ← hz]
    have : cs0.toList[r]? = some (.int .u32 z) := by
      have h0 : ((cs0.toList.drop r).take 1)[0]? = some (.int .u32 z) := by rw [e1]; rfl
      simpa using h0
    simpa using this
end Go.Proofs.YthhjmodkodkgpaaDoor
