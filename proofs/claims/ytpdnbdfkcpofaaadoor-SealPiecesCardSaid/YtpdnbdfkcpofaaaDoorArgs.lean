/- What comes in as a slice, read cell by cell. -/
import Derived.Test.YtpdnbdfkcpofaaaDoorRowKit
namespace Go.Proofs.YtpdnbdfkcpofaaaDoor
open Go.ChangeShapes Go.WideShapes Go.ChangeAt Go.RowKit

/-- n cells from A on, in a block below B, hold f 0, f 1, .. -/
def Reads (w : World) (B : Nat) (A : Option Addr) (n : Nat) (f : Nat → Value) : Prop :=
  ∀ i, i < n → ∃ b off, A = some ⟨b, off, none⟩ ∧ b < B ∧ w.cell? ⟨b, off + i, none⟩ = some (f i)
theorem Reads.below {w w' : World} {B : Nat} {A : Option Addr} {n : Nat} {f : Nat → Value} (h : Reads w B A n f) (hb : Below B w w') : Reads w' B A n f := fun i hi => by
  obtain ⟨b, off, e, hlt, hc⟩ := h i hi
  exact ⟨b, off, e, hlt, (hb.cell (p := ⟨b, off + i, none⟩) hlt).trans hc⟩
theorem cellT_int : Tryd.prog.cellsOf 3 = 1 := by kernel_rfl
/-- an argument that is a slice of ints -/
theorem ints_arg {H : Type} {enc : TypeId × Value → H} {W : World} {base : Nat} {v : Value} {d : DataW H} {p : List MemPlace} (hv : Value.okWide Tryd.prog W .any base 29 v)
    (h : DataW.Trod enc Tryd.prog W 0 (fun _ => true) true 29 v d p) :
    ∃ A cap zs, v = .slice A zs.length cap ∧ zs.length ≤ maxLen ∧ Reads W W.heap.size A zs.length (fun i => .int .i64 (zs.getD i 0)) ∧ (∀ z ∈ zs, (Lit.int .i64 z).wf = true) ∧ (d = .nil ∧ zs = [] ∨ ∃ e s, d = .slice e s ∧ e.length = zs.length) := by
  obtain ⟨a0, len, cap, rfl⟩ := okWide_slice Tryd.underlying29 hv
  obtain ⟨fuel, hf⟩ := h
  rcases open_ints Tryd.underlying29 Tryd.underlying3 cellT_int hf with ⟨hcs, hx⟩ | ⟨a, len', cap', zs, hcs, _, hl, hm, hz, hx, hcell, hwf⟩
  · simp [Value.cells] at hcs
    obtain ⟨rfl, rfl, rfl⟩ := hcs
    simp only [Prod.mk.injEq] at hx
    exact ⟨none, 0, [], rfl, by simp, fun i hi => absurd hi (by simp), fun z hz => absurd hz (by simp), .inl ⟨hx.1, rfl⟩⟩
  · simp [Value.cells] at hcs
    obtain ⟨rfl, rfl, rfl⟩ := hcs
    simp only [if_true] at hz
    simp only [Prod.mk.injEq] at hx
    have hlen : (zs.take len).length = len := by rw [List.length_take]; omega
    refine ⟨some a, cap, zs.take len, by rw [hlen], by omega, fun i hi => ?_, fun z hz => hwf z (List.mem_of_mem_take hz), .inr ⟨_, _, hx.1, by simp [lits]⟩⟩
    rw [hlen] at hi
    obtain ⟨b, off, rfl, hc⟩ := ints_at hcell (by omega)
    have h1 := hc i (by omega)
    have e : (zs.take len).getD i 0 = zs.getD i 0 := by
      rw [List.getD_eq_getElem?_getD, List.getD_eq_getElem?_getD, List.getElem?_take, if_pos hi]
    refine ⟨b, off, rfl, block_lt_of_cell h1, ?_⟩
    show _ = some (Value.int .i64 ((zs.take len).getD i 0))
    rw [e]
    exact h1
end Go.Proofs.YtpdnbdfkcpofaaaDoor
