/- merkle.digestOf. (under way: does not build) -/
import Derived.Test.YthhjmodkodkgpaaDoorSt
import Derived.Test.YthhjmodkodkgpaaDoorMarked
namespace Go.Proofs.YthhjmodkodkgpaaDoor
open Go.RowKit Sbx Go.Sort
theorem arrayAt_any (a : Option Addr) (cap : Nat) (W : World) : (Instr.arrayAt 84 (.slice a 32 cap)).run Tryd.prog W = .ok (.pointer a) W := by
  simp [Instr.arrayAt, run_underlying Tryd.underlying84]
theorem sizeD : (Tryd.prog.info? 84).map (·.size) = some 32 := by kernel_rfl

theorem below_setRow {B g : Nat} {a w : World} (h : Below B a w) (hg : B ≤ g) (cs : Array Value) : Below B a (w.setRow g cs) :=
  ⟨h.os, h.tape, h.output, by simpa using h.size, fun k hk => (setRow_other w g k cs (by omega)).trans (h.block k hk)⟩

set_option maxRecDepth 100000 in
theorem digestOf_any (s : List UInt8) (w : World) (hs : s.length = 32) :
    Calls Tryd.prog 71 #[.string ⟨s.toArray⟩] w fun e w' => e = .returned (.agg (b8s s).toArray) ∧ Below w.heap.size w w' := by
  obtain ⟨v, w1, hcv, hown, hgrow, g, cap, rfl⟩ := run_bytes_of (P := Tryd.prog) (src := 9) (dst := 74) (e := 5) Tryd.underlying9 Tryd.underlying74 Tryd.underlying5 s (by omega) (w.alloc (.cells #[.int .u8 0, .int .u8 0, .int .u8 0, .int .u8 0, .int .u8 0, .int .u8 0, .int .u8 0, .int .u8 0, .int .u8 0, .int .u8 0, .int .u8 0, .int .u8 0, .int .u8 0, .int .u8 0, .int .u8 0, .int .u8 0, .int .u8 0, .int .u8 0, .int .u8 0, .int .u8 0, .int .u8 0, .int .u8 0, .int .u8 0, .int .u8 0, .int .u8 0, .int .u8 0, .int .u8 0, .int .u8 0, .int .u8 0, .int .u8 0, .int .u8 0, .int .u8 0] 84))
  rw [hs] at hcv hown
  have H := Lib.hid (And.intro hown hgrow)
  clear hown hgrow
  have ha := arrayAt_any (some ⟨g, 0, none⟩) cap w1
  have hsz : (b8s s).toArray.size = 32 := by rw [List.size_toArray, b8s_length, hs]
  have hcells : ∀ j v, (b8s s).toArray[j]? = some v → w1.cell? ((⟨g, 0, none⟩ : Addr).add j) = some v := fun j v hv => H.out.1.cells rfl j v (by rw [List.getElem?_toArray] at hv; exact hv)
  have hrow : w1.heap[w.heap.size]? = some (.cells #[.int .u8 0, .int .u8 0, .int .u8 0, .int .u8 0, .int .u8 0, .int .u8 0, .int .u8 0, .int .u8 0, .int .u8 0, .int .u8 0, .int .u8 0, .int .u8 0, .int .u8 0, .int .u8 0, .int .u8 0, .int .u8 0, .int .u8 0, .int .u8 0, .int .u8 0, .int .u8 0, .int .u8 0, .int .u8 0, .int .u8 0, .int .u8 0, .int .u8 0, .int .u8 0, .int .u8 0, .int .u8 0, .int .u8 0, .int .u8 0, .int .u8 0, .int .u8 0] 84 (0, 0)) := (H.out.2.block w.heap.size (by simp) (by simp)).trans (heap_alloc_new w _)
  have hbel : Below w.heap.size w w1 := ((Below.refl _ w).alloc (Nat.le_refl _) _).trans ⟨H.out.2.os, H.out.2.tape, H.out.2.output, H.out.2.size, fun k hk => H.out.2.block k (by simp; omega) (by simp)⟩
  have h1c : (b8s s).toArray.all (·.oneCell') = true := by unfold b8s; simp [Value.oneCell']
  have HH := Lib.hid (And.intro hsz (And.intro hcells (And.intro hrow (And.intro hbel h1c))))
  clear hsz hcells hrow hbel h1c H
  go_enter Tryd.func71, Tryd.ntmps71
  go_wp2_with (first
    | ((with_reducible refine gate_op (Op.load 84 (Operand.tmp 5)) rfl ?_); refine wpList_load_cells rfl 84 _ rfl ⟨g, 0, none⟩ rfl (b8s s).toArray _ HH.out.2.1 Tryd.underlying84 rfl (by rw [HH.out.1]; exact sizeD) ?_)
    | ((with_reducible refine gate_op (Op.store 84 (Operand.tmp 2) (Operand.tmp 6)) rfl ?_); refine wpList_store_row rfl 84 (.tmp 2) (.tmp 6) rfl w.heap.size (b8s s).toArray rfl rfl 84 _ HH.out.2.2.1 (by rw [HH.out.1]; exact sizeD) (by rw [HH.out.1]; rfl) HH.out.2.2.2.2 ?_))
  refine bodyPost_ret (results_cell_row rfl _ _ w.heap.size 84 (b8s s).toArray (0, 0) _ rfl (setRow_heap w1 w.heap.size _ _ 84 _ HH.out.2.2.1) Tryd.underlying84 rfl (by rw [HH.out.1]; exact sizeD)) rfl ?_
  exact ⟨rfl, below_setRow HH.out.2.2.2.1 (Nat.le_refl _) _⟩
end Go.Proofs.YthhjmodkodkgpaaDoor
