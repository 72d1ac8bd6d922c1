/- hash.New, Hasher.Len, Clone, Sum; hash.Sum. -/
import Derived.Test.YticmnckkhbniaaaDoorWWrite
namespace Go.Proofs.YticmnckkhbniaaaDoor
open Go.RowKit Sbx

def ivA : Array Value := #[.int .u32 1779033703, .int .u32 3144134277, .int .u32 1013904242, .int .u32 2773480762, .int .u32 1359893119, .int .u32 2600822924, .int .u32 528734635, .int .u32 1541459225]
theorem ivA_get (i : Nat) (hi : i < 8) : ivA[i]? = some (.int .u32 (((stl iv).getD i 0 : Nat) : Int)) := by
  match i, hi with
  | 0, _ => rfl
  | 1, _ => rfl
  | 2, _ => rfl
  | 3, _ => rfl
  | 4, _ => rfl
  | 5, _ => rfl
  | 6, _ => rfl
  | 7, _ => rfl
theorem Glob.firstA {w : World} (h : Glob w) (j : Nat) (v : Value) (hv : ivA[j]? = some v) : w.cell? ((⟨0, 0, none⟩ : Addr).add j) = some v := by
  have hj : j < 8 := (Array.getElem?_eq_some_iff.1 hv).1
  rw [addr_add, Nat.zero_add, h.first j hj, ← ivA_get j hj, hv]
theorem size8 : (Tryd.prog.info? 62).map (·.size) = some 8 := by kernel_rfl
def freshA : Array Value := hcells (stl iv) (List.replicate 64 0) (0 : Nat)
theorem built_new : Tryd.prog.built 64 [(0, .agg ivA)] = some freshA := by kernel_rfl
theorem size73 : (Tryd.prog.info? 64).map (·.size) = some 73 := by kernel_rfl
theorem wpList_build_known {P : Program} {ops : Array Oper} {rest : List Oper} {o : Oper} {a : Act} {w : World} {Q : Exit → Act → World → Prop} (hg : o.guard = none) (t : TypeId) (parts : Array (Nat × Operand)) (ho : o.op = .build t parts)
    (cs : Array Value) (hf : P.built t (parts.map fun (i, x) => (i, a.eval x)).toList = some cs)
    (h : wpList P ops Q rest (a.put o.dst (.agg cs)) w) : wpList P ops Q (o :: rest) a w :=
  wpList_build hg t parts ho (by rw [hf]; rfl) (by rw [hf]; exact h)
theorem wpList_build_one {P : Program} {ops : Array Oper} {rest : List Oper} {o : Oper} {a : Act} {w : World} {Q : Exit → Act → World → Prop} (hg : o.guard = none) (t : TypeId) (i : Nat) (x : Operand) (ho : o.op = .build t #[(i, x)])
    (v : Value) (hx : a.eval x = v) (cs : Array Value) (hf : P.built t [(i, v)] = some cs)
    (h : wpList P ops Q rest (a.put o.dst (.agg cs)) w) : wpList P ops Q (o :: rest) a w :=
  wpList_build_known hg t _ ho cs (by simpa [hx] using hf) h

set_option maxRecDepth 100000 in
theorem new_any (w : World) (hG : Glob w) :
    Calls Tryd.prog 21 #[] w fun e w' =>
      e = .returned (.pointer (some ⟨w.heap.size, 0, none⟩)) ∧ w' = w.alloc (.cells (hcells (stl iv) (List.replicate 64 0) (0 : Nat)) 64 (0, 0)) := by
  have HG := Lib.hid hG
  clear hG
  go_enter Tryd.func21, Tryd.ntmps21
  go_wp2_with ((with_reducible refine gate_op (Op.load 62 (Operand.global 0)) rfl ?_); refine wpList_load_cells rfl 62 _ rfl ⟨0, 0, none⟩ rfl ivA _ HG.out.firstA Tryd.underlying62 rfl size8 ?_; refine wpList_build_one rfl 64 0 (.tmp 1) rfl (.agg ivA) rfl freshA built_new ?_)
  go_ret
  exact ⟨rfl, rfl⟩
theorem new_holds (w : World) (hG : Glob w) : HAt (w.alloc (.cells (hcells (stl iv) (List.replicate 64 0) (0 : Nat)) 64 (0, 0))) w.heap.size [] :=
  ⟨⟨block_lt_of_cell (hG.first 0 (by omega)), block_lt_of_cell (hG.cubes 0 (by omega))⟩, iv, List.replicate 64 0, 0, iv_ok, HInv.fresh _ rfl, heap_alloc_new _ _⟩
theorem HAt.alloc_same {w : World} {g : Nat} {t : List UInt8} (h : HAt w g t) (o : Obj) : HAt (w.alloc o) g t := h.same (Below.heap_alloc _ _ _ h.lt)

theorem len_any (g : Nat) (t : List UInt8) (w : World) (hA : HAt w g t) :
    Calls Tryd.prog 24 #[.pointer (some ⟨g, 0, none⟩)] w fun e w' => e = .returned (.int .i64 (t.length : Int)) ∧ w = w' := by
  obtain ⟨hf, s, r, n, hok, hi, hc⟩ := hA
  have hr := hi.len
  have hn := hi.size
  have c72 : w.cell? ⟨g, 72, none⟩ = some (.int .i64 (n : Int)) := by rw [cell_of_row w _ _ _ _ _ hc]; exact hc_len _ _ _ rfl hr
  rw [← hn]
  have H := Lib.hid (And.intro hi hc)
  clear hi hc hr hn hf hok
  go_enter Tryd.func24, Tryd.ntmps24
  go_wp2
  go_ret
  exact ⟨rfl, rfl⟩
theorem hcells_one (s : List Nat) (r : List UInt8) (n : Int) : (hcells s r n).all (·.oneCell') = true := by
  unfold hcells i32s b8s
  simp [Value.oneCell']

def zeroH : Array Value := hcells (List.replicate 8 0) (List.replicate 64 0) 0
theorem zero_hasher (W : World) : (zeroValue 64).run Tryd.prog W = .ok (.agg zeroH) W := by kernel_rfl
theorem zeroH_size : zeroH.size = 73 := rfl
set_option maxRecDepth 100000 in
theorem clone_any (g : Nat) (t : List UInt8) (w : World) (hA : HAt w g t) :
    Calls Tryd.prog 26 #[.pointer (some ⟨g, 0, none⟩)] w fun e w' =>
      e = .returned (.pointer (some ⟨w.heap.size, 0, none⟩)) ∧ HAt w' w.heap.size t ∧ Below w.heap.size w w' := by
  have hlt := hA.lt
  obtain ⟨hf, s, r, n, hok, hi, hc⟩ := hA
  have hr := hi.len
  have H := Lib.hid (And.intro hi (And.intro hc (And.intro hr hf)))
  have hsz : (Tryd.prog.info? 64).map (·.size) = some (hcells (stl s) r n).size := size73.trans (by rw [hc_size _ _ _ rfl hr])
  have HS := Lib.hid hsz
  have hz := zero_hasher
  clear hi hc hr hf hsz
  go_enter Tryd.func26, Tryd.ntmps26
  go_wp2_with (first
    | ((with_reducible refine gate_op (Op.load 64 (Operand.tmp 7)) rfl ?_); refine wpList_load_row rfl 64 _ rfl g rfl 64 (hcells (stl s) r n) (0, 0) _ H.out.2.1 Tryd.underlying64 rfl HS.out ?_)
    | ((with_reducible refine gate_op (Op.store 64 (Operand.tmp 3) (Operand.tmp 8)) rfl ?_); refine wpList_store_row rfl 64 (.tmp 3) (.tmp 8) rfl w.heap.size (hcells (stl s) r n) rfl rfl 64 _ (heap_alloc_new _ _) HS.out (by rw [zeroH_size, hc_size _ _ _ rfl H.out.2.2.1]) (hcells_one _ _ _) ?_; rw [setRow_alloc]))
  go_ret
  exact ⟨rfl, ⟨⟨Nat.lt_trans H.out.2.2.2.1 hlt, Nat.lt_trans H.out.2.2.2.2 hlt⟩, s, r, n, hok, H.out.1, heap_alloc_new _ _⟩, (Below.refl _ _).alloc (Nat.le_refl _) _⟩
end Go.Proofs.YticmnckkhbniaaaDoor
