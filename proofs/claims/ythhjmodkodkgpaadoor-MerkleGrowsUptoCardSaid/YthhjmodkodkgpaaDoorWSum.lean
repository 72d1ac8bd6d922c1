/- hash.New, Hasher.Len, Clone, Sum; hash.Sum. -/
import Derived.Test.YthhjmodkodkgpaaDoorWWrite
namespace Go.Proofs.YthhjmodkodkgpaaDoor
open Go.RowKit Sbx

def ivA : Array Value := #[.int .u32 1779033703, .int .u32 3144134277, .int .u32 1013904242, .int .u32 2773480762, .int .u32 1359893119, .int .u32 2600822924, .int .u32 528734635, .int .u32 1541459225]
theorem ivA_get (i : Nat) (hi : i < 8) : ivA[i]? = some (.int .u32 (((stl iv).getD i 0 : Nat) : Int)) := by
  match i, hi with
  | 0, _ => rfl
  | 1, _ => rfl
  | 2, _ => rfl
  | 3, _ => rfl
  | 4, _ => rfl
  | 5, _ => rfl
  | 6, _ => rfl
  | 7, _ => rfl
theorem Glob.firstA {w : World} (h : Glob w) (j : Nat) (v : Value) (hv : ivA[j]? = some v) : w.cell? ((⟨0, 0, none⟩ : Addr).add j) = some v := by
  have hj : j < 8 := (Array.getElem?_eq_some_iff.1 hv).1
  rw [addr_add, Nat.zero_add, h.first j hj, ← ivA_get j hj, hv]
theorem size8 : (Tryd.prog.info? 95).map (·.size) = some 8 := by kernel_rfl
def freshA : Array Value := hcells (stl iv) (List.replicate 64 0) (0 : Nat)
theorem built_new : Tryd.prog.built 98 [(0, .agg ivA)] = some freshA := by kernel_rfl
theorem size73 : (Tryd.prog.info? 98).map (·.size) = some 73 := by kernel_rfl
theorem wpList_build_known {P : Program} {ops : Array Oper} {rest : List Oper} {o : Oper} {a : Act} {w : World} {Q : Exit → Act → World → Prop} (hg : o.guard = none) (t : TypeId) (parts : Array (Nat × Operand)) (ho : o.op = .build t parts)
    (cs : Array Value) (hf : P.built t (parts.map fun (i, x) => (i, a.eval x)).toList = some cs)
    (h : wpList P ops Q rest (a.put o.dst (.agg cs)) w) : wpList P ops Q (o :: rest) a w :=
  wpList_build hg t parts ho (by rw [hf]; rfl) (by rw [hf]; exact h)
theorem wpList_build_one {P : Program} {ops : Array Oper} {rest : List Oper} {o : Oper} {a : Act} {w : World} {Q : Exit → Act → World → Prop} (hg : o.guard = none) (t : TypeId) (i : Nat) (x : Operand) (ho : o.op = .build t #[(i, x)])
    (v : Value) (hx : a.eval x = v) (cs : Array Value) (hf : P.built t [(i, v)] = some cs)
    (h : wpList P ops Q rest (a.put o.dst (.agg cs)) w) : wpList P ops Q (o :: rest) a w :=
  wpList_build_known hg t _ ho cs (by simpa [hx] using hf) h

set_option maxRecDepth 100000 in
theorem new_any (w : World) (hG : Glob w) :
    Calls Tryd.prog 59 #[] w fun e w' =>
      e = .returned (.pointer (some ⟨w.heap.size, 0, none⟩)) ∧ w' = w.alloc (.cells (hcells (stl iv) (List.replicate 64 0) (0 : Nat)) 98 (0, 0)) := by
  have HG := Lib.hid hG
  clear hG
  go_enter Tryd.func59, Tryd.ntmps59
  go_wp2_with ((with_reducible refine gate_op (Op.load 95 (Operand.global 0)) rfl ?_); refine wpList_load_cells rfl 95 _ rfl ⟨0, 0, none⟩ rfl ivA _ HG.out.firstA Tryd.underlying95 rfl size8 ?_; refine wpList_build_one rfl 98 0 (.tmp 1) rfl (.agg ivA) rfl freshA built_new ?_)
  go_ret
  exact ⟨rfl, rfl⟩
theorem new_holds (w : World) (hG : Glob w) : HAt (w.alloc (.cells (hcells (stl iv) (List.replicate 64 0) (0 : Nat)) 98 (0, 0))) w.heap.size [] :=
  ⟨⟨block_lt_of_cell (hG.first 0 (by omega)), block_lt_of_cell (hG.cubes 0 (by omega))⟩, iv, List.replicate 64 0, 0, iv_ok, HInv.fresh _ rfl, heap_alloc_new _ _⟩
theorem HAt.alloc_same {w : World} {g : Nat} {t : List UInt8} (h : HAt w g t) (o : Obj) : HAt (w.alloc o) g t := h.same (Below.heap_alloc _ _ _ h.lt)

theorem hcells_one (s : List Nat) (r : List UInt8) (n : Int) : (hcells s r n).all (·.oneCell') = true := by
  unfold hcells i32s b8s
  simp [Value.oneCell']

def zeroH : Array Value := hcells (List.replicate 8 0) (List.replicate 64 0) 0
theorem zero_hasher (W : World) : (zeroValue 98).run Tryd.prog W = .ok (.agg zeroH) W := by kernel_rfl
theorem zeroH_size : zeroH.size = 73 := rfl
end Go.Proofs.YthhjmodkodkgpaaDoor
